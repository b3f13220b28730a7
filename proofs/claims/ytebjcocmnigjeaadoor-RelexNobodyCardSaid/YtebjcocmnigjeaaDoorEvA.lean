/-
  An evaluator of Go's code over memory of its own: what it works on, and how that lies in a machine's world.
-/
import Derived.Test.YtebjcocmnigjeaaDoorAwB
namespace Go.Ev
open Go.Aw (litOk Z TK TI kOf isAggV tiOf TIs tiOf_spec WF)

/-! ### Maps from numbers -/
inductive T (α : Type) where
  | e
  | n (l : T α) (x : Option α) (r : T α)

namespace T
variable {α β : Type}
def get : T α → Nat → Option α
  | .e, _ => none
  | .n l x r, i => bif Nat.beq i 0 then x else bif Nat.beq (i % 2) 1 then l.get (i / 2) else r.get (i / 2 - 1)

def mk (x : α) : Nat → Nat → T α
  | 0, _ => .e
  | f + 1, i => bif Nat.beq i 0 then .n .e (some x) .e else bif Nat.beq (i % 2) 1 then .n (mk x f (i / 2)) none .e else .n .e none (mk x f (i / 2 - 1))

def set : T α → Nat → α → T α
  | .e, i, x => mk x (i + 1) i
  | .n l o r, i, x => bif Nat.beq i 0 then .n l (some x) r else bif Nat.beq (i % 2) 1 then .n (l.set (i / 2) x) o r else .n l o (r.set (i / 2 - 1) x)

def del : T α → Nat → T α
  | .e, _ => .e
  | .n l o r, i => bif Nat.beq i 0 then .n l none r else bif Nat.beq (i % 2) 1 then .n (l.del (i / 2)) o r else .n l o (r.del (i / 2 - 1))

theorem beq0 (i : Nat) : Nat.beq i 0 = decide (i = 0) := by
  cases i <;> rfl
theorem beq1 (i : Nat) : Nat.beq i 1 = decide (i = 1) := by
  by_cases h : i = 1
  · subst h; rfl
  · cases hb : Nat.beq i 1 with
    | true => exact absurd (Nat.eq_of_beq_eq_true hb) h
    | false => simp [h]

theorem get_n (l r : T α) (x : Option α) (i : Nat) : (T.n l x r).get i = if i = 0 then x else if i % 2 = 1 then l.get (i / 2) else r.get (i / 2 - 1) := by
  simp only [get, beq0, beq1, cond_eq_ite, decide_eq_true_eq]

theorem get_mk (x : α) : ∀ (f i : Nat), i < f → ∀ j, (mk x f i).get j = if i = j then some x else none := by
  intro f
  induction f with
  | zero => intro i h; omega
  | succ f ih =>
    intro i hi j
    simp only [mk, beq0, beq1, cond_eq_ite, decide_eq_true_eq]
    by_cases h0 : i = 0
    · subst h0
      rw [if_pos rfl, get_n]
      by_cases hj : j = 0
      · subst hj; simp
      · have hj' : ¬ 0 = j := fun e => hj e.symm
        simp [hj, hj', get]
    · rw [if_neg h0]
      by_cases h1 : i % 2 = 1
      · rw [if_pos h1, get_n, ih (i / 2) (by omega)]
        by_cases hj : j = 0
        · subst hj; rw [if_pos rfl, if_neg h0]
        · rw [if_neg hj]
          by_cases h2 : j % 2 = 1
          · rw [if_pos h2]
            by_cases h3 : i = j
            · subst h3; simp
            · rw [if_neg h3, if_neg (by omega)]
          · rw [if_neg h2, if_neg (by intro e; subst e; exact h2 h1)]; rfl
      · rw [if_neg h1, get_n, ih (i / 2 - 1) (by omega)]
        by_cases hj : j = 0
        · subst hj; rw [if_pos rfl, if_neg h0]
        · rw [if_neg hj]
          by_cases h2 : j % 2 = 1
          · rw [if_pos h2, if_neg (by intro e; subst e; exact h1 h2)]; rfl
          · rw [if_neg h2]
            by_cases h3 : i = j
            · subst h3; simp
            · rw [if_neg h3, if_neg (by omega)]

theorem get_set : ∀ (t : T α) (i : Nat) (x : α) (j : Nat), (t.set i x).get j = if i = j then some x else t.get j
  | .e, i, x, j => by simp only [set, get_mk x (i + 1) i (by omega) j, get]
  | .n l o r, i, x, j => by
    have ihl := get_set l (i / 2) x
    have ihr := get_set r (i / 2 - 1) x
    simp only [set, beq0, beq1, cond_eq_ite, decide_eq_true_eq]
    by_cases h0 : i = 0
    · subst h0
      rw [if_pos rfl, get_n, get_n]
      by_cases hj : j = 0
      · subst hj; simp
      · have hj' : ¬ 0 = j := fun e => hj e.symm
        simp [hj, hj']
    · rw [if_neg h0]
      by_cases h1 : i % 2 = 1
      · rw [if_pos h1, get_n, get_n, ihl]
        by_cases hj : j = 0
        · subst hj; rw [if_pos rfl, if_pos rfl, if_neg h0]
        · rw [if_neg hj, if_neg hj]
          by_cases h2 : j % 2 = 1
          · rw [if_pos h2, if_pos h2]
            by_cases h3 : i = j
            · subst h3; simp
            · rw [if_neg h3, if_neg (by omega)]
          · rw [if_neg h2, if_neg h2, if_neg (by intro e; subst e; exact h2 h1)]
      · rw [if_neg h1, get_n, get_n, ihr]
        by_cases hj : j = 0
        · subst hj; rw [if_pos rfl, if_pos rfl, if_neg h0]
        · rw [if_neg hj, if_neg hj]
          by_cases h2 : j % 2 = 1
          · rw [if_pos h2, if_pos h2, if_neg (by intro e; subst e; exact h1 h2)]
          · rw [if_neg h2, if_neg h2]
            by_cases h3 : i = j
            · subst h3; simp
            · rw [if_neg h3, if_neg (by omega)]

theorem get_del : ∀ (t : T α) (i j : Nat), (t.del i).get j = if i = j then none else t.get j
  | .e, i, j => by simp [del, get]
  | .n l o r, i, j => by
    have ihl := get_del l (i / 2)
    have ihr := get_del r (i / 2 - 1)
    simp only [del, beq0, beq1, cond_eq_ite, decide_eq_true_eq]
    by_cases h0 : i = 0
    · subst h0
      rw [if_pos rfl, get_n, get_n]
      by_cases hj : j = 0
      · subst hj; simp
      · have hj' : ¬ 0 = j := fun e => hj e.symm
        simp [hj, hj']
    · rw [if_neg h0]
      by_cases h1 : i % 2 = 1
      · rw [if_pos h1, get_n, get_n, ihl]
        by_cases hj : j = 0
        · subst hj; rw [if_pos rfl, if_pos rfl, if_neg h0]
        · rw [if_neg hj, if_neg hj]
          by_cases h2 : j % 2 = 1
          · rw [if_pos h2, if_pos h2]
            by_cases h3 : i = j
            · subst h3; simp
            · rw [if_neg h3, if_neg (by omega)]
          · rw [if_neg h2, if_neg h2, if_neg (by intro e; subst e; exact h2 h1)]
      · rw [if_neg h1, get_n, get_n, ihr]
        by_cases hj : j = 0
        · subst hj; rw [if_pos rfl, if_pos rfl, if_neg h0]
        · rw [if_neg hj, if_neg hj]
          by_cases h2 : j % 2 = 1
          · rw [if_pos h2, if_pos h2, if_neg (by intro e; subst e; exact h1 h2)]
          · rw [if_neg h2, if_neg h2]
            by_cases h3 : i = j
            · subst h3; simp
            · rw [if_neg h3, if_neg (by omega)]
end T

/-! ### Data, parts of memory -/
inductive D where
  | lit (v : Value)
  | agg (l : List D)
  | pt (l o : Nat)
  | sl (l off len : Nat) (cap : Option Nat)
  | fn (f : Fn) (first caps : List D)
  | yl (l : Nat)
  | ifc (t : TypeId) (d : D)
  | tup (l : List D)
  | em
  | un
  | one
  | any

structure Lp where
  n : Nat
  tm : T D
  ps : Array Tmp
  assign : Code
  body : Code
  st : LoopState
  pend : Option Code
  df : Nat

inductive Blk where
  | cells (ty : TypeId) (op : Option Nat) (ds : List D)
  | dfr
  | loop (l : Lp)

inductive Place where
  | dead
  | blk (b c : Nat)

structure Mem where
  μ : Nat → Place
  nx : Nat

/-- A name that is dead tells nothing. -/
def Mem.at (M : Mem) (l b : Nat) : Prop := l < M.nx ∧ ∀ b' c', M.μ l = .blk b' c' → b' = b

inductive R (M : Mem) : D → Value → Prop
  | lit (v : Value) (h : litOk v) : R M (.lit v) v
  | agg (l : List D) (cs : Array Value) (hs : cs.size = l.length) (h1 : ∀ (i : Nat) d, l[i]? = some d → (cs.getD i undef).oneCell' = true)
      (h : ∀ (i : Nat) d, l[i]? = some d → R M d (cs.getD i undef)) : R M (.agg l) (.agg cs)
  | pt (l o b : Nat) (h : M.at l b) : R M (.pt l o) (.pointer (some ⟨b, o, none⟩))
  | sl (l off len : Nat) (cap : Option Nat) (b k : Nat) (h : M.at l b) (hk : ∀ q, cap = some q → k = q) (h0 : cap = none → off = 0 → ∀ b' c', M.μ l = .blk b' c' → k = c')
      (hn : len ≤ k) (hm : k ≤ maxLen) : R M (.sl l off len cap) (.slice (some ⟨b, off, none⟩) len k)
  | fn (f : Fn) (first caps : List D) (v1 v2 : Array Value) (h1 : v1.size = first.length) (h2 : v2.size = caps.length)
      (r1 : ∀ (i : Nat) d, first[i]? = some d → R M d (v1.getD i undef)) (r2 : ∀ (i : Nat) d, caps[i]? = some d → R M d (v2.getD i undef)) : R M (.fn f first caps) (.func f v1 v2)
  | yl (l b : Nat) (h : M.at l b) : R M (.yl l) (.func (.yield b) #[] #[])
  | ifc (t : TypeId) (d : D) (v : Value) (h : R M d v) : R M (.ifc t d) (.iface t v)
  | tup (l : List D) (vs : Array Value) (hs : vs.size = l.length) (h : ∀ (i : Nat) d, l[i]? = some d → R M d (vs.getD i undef)) : R M (.tup l) (.tuple vs)
  | em (a : Option Addr) (k : Nat) (h : k ≤ maxLen) : R M .em (.slice a 0 k)
  | un : R M .un undef
  | one (v : Value) (h : v.oneCell' = true) : R M .one v
  | any (v : Value) : R M .any v

def RT (M : Mem) (n : Nat) (tm : T D) (ts : Array Value) : Prop := ts.size = n ∧ ∀ t d, tm.get t = some d → R M d (ts.getD t undef)

def RB (M : Mem) (w : World) : Blk → Nat → Nat → Prop
  | .cells ty op ds, b, c => ∃ cur : Array Value, w.heap[b]? = some (.cells cur ty (0, 0)) ∧ (match op with | none => cur.size = ds.length | some sz => ds.length ≤ cur.size ∧ cur.size = c * sz ∧ c ≤ maxLen) ∧
      ∀ (i : Nat) d, ds[i]? = some d → (cur.getD i undef).oneCell' = true ∧ R M d (cur.getD i undef)
  | .dfr, b, _ => w.heap[b]? = some (.deferred (some []))
  | .loop l, b, _ => ∃ fn ts dv, w.heap[b]? = some (.loop { state := l.st, pending := l.pend, fn := fn, tmps := ts, params := l.ps, assign := l.assign, body := l.body, defers := dv }) ∧ RT M l.n l.tm ts ∧ M.at l.df dv

structure Inv (M : Mem) (w : World) : Prop where
  inj : ∀ l l' b c c', M.μ l = .blk b c → M.μ l' = .blk b c' → l = l'
  lt : ∀ l b c, M.μ l = .blk b c → b < w.heap.size
  nx : ∀ l b c, M.μ l = .blk b c → l < M.nx

/-- What a step may have changed. -/
structure Ext (M : Mem) (w : World) (M' : Mem) (w' : World) : Prop where
  os : w'.os = w.os
  tape : w'.tape = w.tape
  output : w'.output = w.output
  size : w.heap.size ≤ w'.heap.size
  keep : ∀ b, b < w.heap.size → (∀ l c, M.μ l ≠ .blk b c) → w'.heap[b]? = w.heap[b]?
  new : ∀ l b c, M'.μ l = .blk b c → (∃ l' c', M.μ l' = .blk b c') ∨ w.heap.size ≤ b
  nx : M.nx ≤ M'.nx
  mono : ∀ l, l < M.nx → M'.μ l = M.μ l ∨ M'.μ l = .dead

theorem Ext.refl (M : Mem) (w : World) : Ext M w M w :=
  ⟨rfl, rfl, rfl, Nat.le_refl _, fun _ _ _ => rfl, fun l _ c h => .inl ⟨l, c, h⟩, Nat.le_refl _, fun _ _ => .inl rfl⟩

theorem Ext.trans {M M1 M2 : Mem} {w w1 w2 : World} (h : Ext M w M1 w1) (k : Ext M1 w1 M2 w2) : Ext M w M2 w2 where
  os := k.os.trans h.os
  tape := k.tape.trans h.tape
  output := k.output.trans h.output
  size := Nat.le_trans h.size k.size
  keep b hb hn := (k.keep b (Nat.lt_of_lt_of_le hb h.size) (fun l c hl => by
    rcases h.new l b c hl with ⟨l', c', h'⟩ | h'
    · exact hn l' c' h'
    · omega)).trans (h.keep b hb hn)
  new l b c hl := by
    rcases k.new l b c hl with ⟨l', c', h'⟩ | h'
    · exact h.new l' b c' h'
    · exact .inr (Nat.le_trans h.size h')
  nx := Nat.le_trans h.nx k.nx
  mono l hl := by
    rcases h.mono l hl with e | e
    · rcases k.mono l (Nat.lt_of_lt_of_le hl h.nx) with e2 | e2
      · exact .inl (e2.trans e)
      · exact .inr e2
    · rcases k.mono l (Nat.lt_of_lt_of_le hl h.nx) with e2 | e2
      · exact .inr (e2.trans e)
      · exact .inr e2

/-- Later memory. -/
structure Mem.le (M M' : Mem) : Prop where
  nx : M.nx ≤ M'.nx
  mono : ∀ l, l < M.nx → M'.μ l = M.μ l ∨ M'.μ l = .dead

theorem Mem.le.refl (M : Mem) : M.le M := ⟨Nat.le_refl _, fun _ _ => .inl rfl⟩
theorem Ext.le {M M' : Mem} {w w' : World} (h : Ext M w M' w') : M.le M' := ⟨h.nx, h.mono⟩

theorem Mem.at.mono {M M' : Mem} (h : M.le M') {l b : Nat} (ha : M.at l b) : M'.at l b :=
  ⟨Nat.lt_of_lt_of_le ha.1 h.nx, fun b' c' e => by
    rcases h.mono l ha.1 with q | q
    · exact ha.2 b' c' (q ▸ e)
    · rw [q] at e; cases e⟩

theorem R.mono {M M' : Mem} (h : M.le M') {d : D} {v : Value} (hr : R M d v) : R M' d v := by
  induction hr with
  | lit v h => exact .lit v h
  | agg l cs hs h1 _ ih => exact .agg l cs hs h1 ih
  | pt l o b ha => exact .pt l o b (ha.mono h)
  | sl l off len cap b k ha hk h0 hn hm =>
    exact .sl l off len cap b k (ha.mono h) hk (fun hc ho b' c' e => by
      rcases h.mono l ha.1 with q | q
      · exact h0 hc ho b' c' (q ▸ e)
      · rw [q] at e; cases e) hn hm
  | fn f first caps v1 v2 h1 h2 _ _ ih1 ih2 => exact .fn f first caps v1 v2 h1 h2 ih1 ih2
  | yl l b ha => exact .yl l b (ha.mono h)
  | ifc t d v _ ih => exact .ifc t d v ih
  | tup l vs hs _ ih => exact .tup l vs hs ih
  | em a k h => exact .em a k h
  | un => exact .un
  | one v h => exact .one v h
  | any v => exact .any v

theorem RT.mono {M M' : Mem} (h : M.le M') {n : Nat} {tm : T D} {ts : Array Value} (hr : RT M n tm ts) : RT M' n tm ts := ⟨hr.1, fun t d e => (hr.2 t d e).mono h⟩

theorem RB.mono {M M' : Mem} {w w' : World} (h : M.le M') {k : Blk} {b c : Nat} (hw : w'.heap[b]? = w.heap[b]?) (hr : RB M w k b c) : RB M' w' k b c := by
  cases k with
  | cells ty op ds =>
    obtain ⟨cur, h1, h2, h3⟩ := hr
    exact ⟨cur, hw.trans h1, h2, fun i d e => ⟨(h3 i d e).1, (h3 i d e).2.mono h⟩⟩
  | dfr => exact hw.trans hr
  | loop l =>
    obtain ⟨fn, ts, dv, h1, h2, h3⟩ := hr
    exact ⟨fn, ts, dv, hw.trans h1, h2.mono h, h3.mono h⟩

/-! ### The state -/
/-- Memory: its parts, the first name that is free. -/
structure H where
  hp : T Blk
  nx : Nat

structure RH (M : Mem) (h : H) (w : World) : Prop where
  inv : Inv M w
  hp : ∀ l b, h.hp.get l = some b → ∃ n c, M.μ l = .blk n c ∧ RB M w b n c
  nx : h.nx = M.nx

/-- A frame's state. -/
structure St where
  n : Nat
  tm : T D
  h : H
  df : List Nat

structure Rep (M : Mem) (s : St) (w : World) (a : Act) : Prop where
  h : RH M s.h w
  t : RT M s.n s.tm a.tmps
  df : ∃ bs : List Nat, a.defers = bs.map (fun b => { target := .collected b, args := #[] }) ∧ bs.length = s.df.length ∧ ∀ (i : Nat) (l : Nat), s.df[i]? = some l → ∃ b : Nat, bs[i]? = some b ∧ M.at l b

def St.put (s : St) : Option Tmp → D → St
  | none, _ => s
  | some t, d => { s with tm := s.tm.set t d }

def St.room (s : St) : Option Tmp → Bool
  | none => true
  | some t => Nat.blt t s.n

theorem Rep.put {M : Mem} {s : St} {w : World} {a : Act} (h : Rep M s w a) {dst : Option Tmp} {d : D} {v : Value} (hd : R M d v) (hr : s.room dst = true) : Rep M (s.put dst d) w (a.put dst v) := by
  cases dst with
  | none => exact h
  | some t =>
    have ht : t < a.tmps.size := by rw [h.t.1]; simpa [St.room, Nat.blt_eq] using hr
    refine ⟨h.h, ⟨by simpa [Act.put, St.put] using h.t.1, fun u e hu => ?_⟩, h.df⟩
    simp only [St.put, T.get_set] at hu
    simp only [Act.put]
    by_cases htu : t = u
    · subst htu
      rw [if_pos rfl] at hu
      cases hu
      simpa [Array.getD, ht] using hd
    · rw [if_neg htu] at hu
      have := h.t.2 u e hu
      have e : (a.tmps.setIfInBounds t v).getD u undef = a.tmps.getD u undef := by
        simp [Array.getD_eq_getD_getElem?, Array.getElem?_setIfInBounds_ne htu]
      rw [e]
      exact this

theorem Rep.mono {M M' : Mem} {s : St} {w w' : World} {a : Act} (h : Rep M s w a) (hl : M.le M') {h' : H} (hh : RH M' h' w') : Rep M' { s with h := h' } w' a := by
  refine ⟨hh, h.t.mono hl, ?_⟩
  obtain ⟨bs, h1, h2, h3⟩ := h.df
  exact ⟨bs, h1, h2, fun i l e => let ⟨b, a1, a2⟩ := h3 i l e; ⟨b, a1, a2.mono hl⟩⟩

def constD : Value → D
  | .agg cs => bif cs.toList.all Aw.litB then .agg (cs.toList.map fun c => .lit c) else .any
  | v => bif Aw.litB v then .lit v else .any

def valT (tm : T D) : Operand → D
  | .tmp t => (tm.get t).getD .any
  | .const v => constD v
  | .func f => .fn (.func f) [] []
  | .global _ => .any

theorem Rep.val {M : Mem} {s : St} {w : World} {a : Act} (h : Rep M s w a) (x : Operand) : R M (valT s.tm x) (a.eval x) := by
  cases x with
  | tmp t =>
    simp only [valT]
    cases hl : s.tm.get t with
    | none => exact .any _
    | some d => exact h.t.2 t d hl
  | const v =>
    simp only [valT, Act.eval, constD]
    split
    · rename_i cs
      cases hc : cs.toList.all Aw.litB with
      | true =>
        have hl : ∀ c, c ∈ cs.toList → litOk c := fun c hm => Aw.litB_ok (List.all_eq_true.1 hc c hm)
        refine .agg _ _ (by simp) (fun i d hi => ?_) (fun i d hi => ?_)
        · simp only [List.getElem?_map, Array.getElem?_toList, Option.map_eq_some_iff] at hi
          obtain ⟨c, hc1, rfl⟩ := hi
          have := hl c (by rw [Array.mem_toList_iff]; exact Array.mem_of_getElem? hc1)
          rw [show cs.getD i undef = c by simp [Array.getD_eq_getD_getElem?, hc1]]
          cases c <;> simp_all [litOk, Value.oneCell']
        · simp only [List.getElem?_map, Array.getElem?_toList, Option.map_eq_some_iff] at hi
          obtain ⟨c, hc1, rfl⟩ := hi
          have := hl c (by rw [Array.mem_toList_iff]; exact Array.mem_of_getElem? hc1)
          rw [show cs.getD i undef = c by simp [Array.getD_eq_getD_getElem?, hc1]]
          exact .lit _ this
      | false => exact .any _
    · rename_i hb
      cases hc : Aw.litB v with
      | true => exact .lit _ (Aw.litB_ok hc)
      | false => exact .any _
  | func f => exact .fn _ _ _ _ _ rfl rfl (fun i d hi => by simp at hi) (fun i d hi => by simp at hi)
  | global g => exact .any _

/-! ### Memory changes -/
def Mem.set (M : Mem) (l : Nat) (p : Place) (nx : Nat) : Mem := { μ := fun k => if k = l then p else M.μ k, nx := nx }

/-- A part of memory is written: only its block has turned. -/
theorem RH.write {M : Mem} {h : H} {w w' : World} (hr : RH M h w) {l n c : Nat} (hl : M.μ l = .blk n c) (k : Blk) (ho : w'.os = w.os) (htp : w'.tape = w.tape) (hou : w'.output = w.output)
    (hsz : w'.heap.size = w.heap.size) (hk : ∀ b, b ≠ n → w'.heap[b]? = w.heap[b]?) (hb : RB M w' k n c) : RH M { h with hp := h.hp.set l k } w' ∧ Ext M w M w' := by
  refine ⟨⟨⟨hr.inv.inj, fun l b c e => by rw [hsz]; exact hr.inv.lt l b c e, hr.inv.nx⟩, fun m b e => ?_, hr.nx⟩, ⟨ho, htp, hou, Nat.le_of_eq hsz.symm, fun b hb hn => hk b (fun e => hn l c (e ▸ hl)), fun l b c e => .inl ⟨l, c, e⟩, Nat.le_refl _, fun _ _ => .inl rfl⟩⟩
  simp only [T.get_set] at e
  by_cases hm : l = m
  · subst hm
    rw [if_pos rfl] at e
    cases e
    exact ⟨n, c, hl, hb⟩
  · rw [if_neg hm] at e
    obtain ⟨n', c', h1, h2⟩ := hr.hp m b e
    exact ⟨n', c', h1, h2.mono (.refl M) (hk n' (fun q => hm (hr.inv.inj l m n c c' hl (q ▸ h1))))⟩

/-- A new part of memory. -/
theorem RH.fresh {M : Mem} {h : H} {w w' : World} (hr : RH M h w) (k : Blk) (n c : Nat) (ho : w'.os = w.os) (htp : w'.tape = w.tape) (hou : w'.output = w.output) (hsz : w.heap.size ≤ w'.heap.size)
    (hk : ∀ b, b < w.heap.size → w'.heap[b]? = w.heap[b]?) (hn : w.heap.size ≤ n ∧ n < w'.heap.size) (hb : M.le (M.set h.nx (.blk n c) (h.nx + 1)) → RB (M.set h.nx (.blk n c) (h.nx + 1)) w' k n c) :
    RH (M.set h.nx (.blk n c) (h.nx + 1)) { hp := h.hp.set h.nx k, nx := h.nx + 1 } w' ∧ Ext M w (M.set h.nx (.blk n c) (h.nx + 1)) w' := by
  have hle : M.le (M.set h.nx (.blk n c) (h.nx + 1)) := ⟨by simp [Mem.set, hr.nx], fun l hl => by
    left
    have : l ≠ h.nx := by rw [hr.nx]; omega
    simp [Mem.set, this]⟩
  refine ⟨⟨⟨fun l l' b c1 c2 h1 h2 => ?_, fun l b c1 h1 => ?_, fun l b c1 h1 => ?_⟩, fun l b e => ?_, rfl⟩, ⟨ho, htp, hou, hsz, fun b hb _ => hk b hb, fun l b c1 h1 => ?_, hle.nx, hle.mono⟩⟩
  · simp only [Mem.set] at h1 h2
    by_cases e1 : l = h.nx <;> by_cases e2 : l' = h.nx
    · rw [e1, e2]
    · rw [if_pos e1] at h1
      rw [if_neg e2] at h2
      cases h1
      have := hr.inv.lt _ _ _ h2
      omega
    · rw [if_neg e1] at h1
      rw [if_pos e2] at h2
      cases h2
      have := hr.inv.lt _ _ _ h1
      omega
    · rw [if_neg e1] at h1
      rw [if_neg e2] at h2
      exact hr.inv.inj _ _ _ _ _ h1 h2
  · simp only [Mem.set] at h1
    by_cases e1 : l = h.nx
    · rw [if_pos e1] at h1; cases h1; exact hn.2
    · rw [if_neg e1] at h1; exact Nat.lt_of_lt_of_le (hr.inv.lt _ _ _ h1) hsz
  · simp only [Mem.set] at h1 ⊢
    by_cases e1 : l = h.nx
    · omega
    · rw [if_neg e1] at h1; have := hr.inv.nx _ _ _ h1; rw [hr.nx]; omega
  · simp only [T.get_set] at e
    by_cases e1 : h.nx = l
    · subst e1
      rw [if_pos rfl] at e
      cases e
      exact ⟨n, c, by simp [Mem.set], hb hle⟩
    · rw [if_neg e1] at e
      obtain ⟨n', c', a1, a2⟩ := hr.hp l b e
      exact ⟨n', c', by simp only [Mem.set]; rw [if_neg (fun q => e1 q.symm)]; exact a1, a2.mono hle (hk n' (hr.inv.lt _ _ _ a1))⟩
  · simp only [Mem.set] at h1
    by_cases e1 : l = h.nx
    · rw [if_pos e1] at h1; cases h1; exact .inr hn.1
    · rw [if_neg e1] at h1; exact .inl ⟨l, c1, h1⟩

/-- A part of memory is given up, and another one taken, in whose place it may lie. -/
theorem RH.move {M : Mem} {h : H} {w w' : World} (hr : RH M h w) {l n c : Nat} (hl : M.μ l = .blk n c) (k : Blk) (n' c' : Nat) (ho : w'.os = w.os) (htp : w'.tape = w.tape) (hou : w'.output = w.output) (hsz : w.heap.size ≤ w'.heap.size)
    (hk : ∀ b, b < w.heap.size → b ≠ n → w'.heap[b]? = w.heap[b]?) (hn : (n' = n ∨ w.heap.size ≤ n') ∧ n' < w'.heap.size)
    (hb : M.le ((M.set l .dead h.nx).set h.nx (.blk n' c') (h.nx + 1)) → RB ((M.set l .dead h.nx).set h.nx (.blk n' c') (h.nx + 1)) w' k n' c') :
    RH ((M.set l .dead h.nx).set h.nx (.blk n' c') (h.nx + 1)) { hp := (h.hp.del l).set h.nx k, nx := h.nx + 1 } w' ∧ Ext M w ((M.set l .dead h.nx).set h.nx (.blk n' c') (h.nx + 1)) w' := by
  have hll : l < h.nx := by rw [hr.nx]; exact hr.inv.nx _ _ _ hl
  have hμ : ∀ m, ((M.set l .dead h.nx).set h.nx (.blk n' c') (h.nx + 1)).μ m = if m = h.nx then .blk n' c' else if m = l then .dead else M.μ m := fun m => rfl
  have hle : M.le ((M.set l .dead h.nx).set h.nx (.blk n' c') (h.nx + 1)) := ⟨by simp [Mem.set, hr.nx], fun m hm => by
    rw [hμ, if_neg (by rw [hr.nx]; omega)]
    by_cases e : m = l
    · rw [if_pos e]; exact .inr rfl
    · rw [if_neg e]; exact .inl rfl⟩
  have old : ∀ m b c1, m ≠ h.nx → ((M.set l .dead h.nx).set h.nx (.blk n' c') (h.nx + 1)).μ m = .blk b c1 → m ≠ l ∧ M.μ m = .blk b c1 := fun m b c1 hm e => by
    rw [hμ, if_neg hm] at e
    by_cases e1 : m = l
    · rw [if_pos e1] at e; cases e
    · rw [if_neg e1] at e; exact ⟨e1, e⟩
  have newp : ∀ b c1, ((M.set l .dead h.nx).set h.nx (.blk n' c') (h.nx + 1)).μ h.nx = .blk b c1 → b = n' := fun b c1 e => by
    rw [hμ, if_pos rfl] at e; cases e; rfl
  have clash : ∀ m c1, m ≠ l → M.μ m = .blk n' c1 → False := fun m c1 hm e => by
    rcases hn.1 with q | q
    · exact hm (hr.inv.inj _ _ _ _ _ (q ▸ e) hl)
    · have := hr.inv.lt _ _ _ e; omega
  refine ⟨⟨⟨fun m m' b c1 c2 h1 h2 => ?_, fun m b c1 h1 => ?_, fun m b c1 h1 => ?_⟩, fun m b e => ?_, rfl⟩, ⟨ho, htp, hou, hsz, fun b hb hnn => hk b hb (fun e => hnn l c (e ▸ hl)), fun m b c1 h1 => ?_, hle.nx, hle.mono⟩⟩
  · by_cases e1 : m = h.nx <;> by_cases e2 : m' = h.nx
    · rw [e1, e2]
    · subst e1
      obtain ⟨q1, q2⟩ := old _ _ _ e2 h2
      rw [newp _ _ h1] at q2
      exact (clash _ _ q1 q2).elim
    · subst e2
      obtain ⟨q1, q2⟩ := old _ _ _ e1 h1
      rw [newp _ _ h2] at q2
      exact (clash _ _ q1 q2).elim
    · exact hr.inv.inj _ _ _ _ _ (old _ _ _ e1 h1).2 (old _ _ _ e2 h2).2
  · by_cases e1 : m = h.nx
    · subst e1; rw [newp _ _ h1]; exact hn.2
    · exact Nat.lt_of_lt_of_le (hr.inv.lt _ _ _ (old _ _ _ e1 h1).2) hsz
  · by_cases e1 : m = h.nx
    · rw [e1]; simp [Mem.set]
    · have := hr.inv.nx _ _ _ (old _ _ _ e1 h1).2
      simp only [Mem.set]
      rw [hr.nx]; omega
  · simp only [T.get_set, T.get_del] at e
    by_cases e1 : h.nx = m
    · subst e1
      rw [if_pos rfl] at e
      cases e
      exact ⟨n', c', by rw [hμ, if_pos rfl], hb hle⟩
    · rw [if_neg e1] at e
      by_cases e2 : l = m
      · rw [if_pos e2] at e; cases e
      · rw [if_neg e2] at e
        obtain ⟨p, q, a1, a2⟩ := hr.hp m b e
        exact ⟨p, q, by rw [hμ, if_neg (fun x => e1 x.symm), if_neg (fun x => e2 x.symm)]; exact a1, a2.mono hle (hk p (hr.inv.lt _ _ _ a1) (fun x => e2 (hr.inv.inj _ _ _ _ _ hl (x ▸ a1))))⟩
  · by_cases e1 : m = h.nx
    · subst e1
      rw [newp _ _ h1]
      rcases hn.1 with q | q
      · exact .inl ⟨l, c, q ▸ hl⟩
      · exact .inr q
    · exact .inl ⟨m, c1, (old _ _ _ e1 h1).2⟩

/-- Orders drawn from the tape change nothing that is known. -/
theorem RH.drawn {M : Mem} {h : H} {w : World} (hr : RH M h w) (k : Nat) : RH M h { w with drawn := k } ∧ Ext M w M { w with drawn := k } :=
  ⟨⟨⟨hr.inv.inj, hr.inv.lt, hr.inv.nx⟩, fun l b e => let ⟨n, c, h1, h2⟩ := hr.hp l b e; ⟨n, c, h1, h2.mono (.refl M) rfl⟩, hr.nx⟩,
    ⟨rfl, rfl, rfl, Nat.le_refl _, fun _ _ _ => rfl, fun l _ c e => .inl ⟨l, c, e⟩, Nat.le_refl _, fun _ _ => .inl rfl⟩⟩
end Go.Ev
