/-
  Pure data for Go's values, and how they lie in a world; an abstract state of a running function; its relation to the machine's.
-/
import Derived.RangeFuncIn
import Derived.OrdersIn
import Derived.Maps.AppendAt
import Derived.WalkKit
namespace Go.Aw

/-- A name of a part of memory that may change: of the caller's, or of the call's own. -/
inductive Loc where
  | a (i : Nat)
  | l (i : Nat)
  deriving DecidableEq

/-- Data that does not change any more. -/
inductive I where
  | lit (v : Value)
  | sl (full : Bool) (sz : Nat) (rows : List (List I))
  | agg (l : List I)
  | ifc (t : TypeId) (x : I)

/-- Data that may lead to what changes. -/
inductive D where
  | i (x : I)
  | agg (l : List D)
  | pt (l : Loc) (o : Nat)
  | el (row : List I) (o : Nat)
  | ea (l : Loc) (sz i o : Nat)
  | os (l : Loc)
  | fn (f : Fn) (first caps : List D)
  | yl (l : Loc)
  | ifc (t : TypeId) (d : D)
  | tup (l : List D)
  | un
  | any

inductive Blk where
  | cells (ty : TypeId) (ds : List D)
  | arr (ty : TypeId) (sz : Nat) (rows : List (List I))
  | dfr
  | res (Φ : World → Prop)

/-- Where a part of memory lies. -/
inductive Place where
  | dead
  | blk (b : Nat)
  | own (v : Value)
  | res (F : Nat → Prop)

def Place.has : Place → Nat → Prop
  | .dead, _ => False
  | .blk b, n => n = b
  | .own v, n => v.ownBlock = some n
  | .res F, n => F n

structure Mem where
  μ : Loc → Place
  S : Nat → Prop

def litOk : Value → Prop
  | .string s => s.size ≤ maxLen
  | .agg _ => False
  | .tuple _ => False
  | _ => True

inductive RI (w : World) (S : Nat → Prop) : I → Value → Prop
  | lit (v : Value) (h : litOk v) : RI w S (.lit v) v
  | nil (f : Bool) (sz : Nat) : RI w S (.sl f sz []) (.slice none 0 0)
  | sl (f : Bool) (sz : Nat) (rows : List (List I)) (b off cap : Nat) (V : Nat → Nat → Value) (hb : S b) (hn : rows.length ≤ cap) (hc : cap ≤ maxLen)
      (hf : f = true → cap = rows.length) (hz : ∀ r, r ∈ rows → r.length = sz)
      (h1 : ∀ i r j x, rows[i]? = some r → r[j]? = some x → w.cell? ⟨b, off + i * sz + j, none⟩ = some (V i j) ∧ (V i j).oneCell' = true)
      (h2 : ∀ i r j x, rows[i]? = some r → r[j]? = some x → RI w S x (V i j)) : RI w S (.sl f sz rows) (.slice (some ⟨b, off, none⟩) rows.length cap)
  | agg (l : List I) (cs : Array Value) (hs : cs.size = l.length) (h1 : ∀ i x, l[i]? = some x → (cs.getD i undef).oneCell' = true)
      (h : ∀ i x, l[i]? = some x → RI w S x (cs.getD i undef)) : RI w S (.agg l) (.agg cs)
  | ifc (t : TypeId) (x : I) (v : Value) (h : RI w S x v) : RI w S (.ifc t x) (.iface t v)

inductive R (M : Mem) (w : World) : D → Value → Prop
  | i (x : I) (v : Value) (h : RI w M.S x v) : R M w (.i x) v
  | agg (l : List D) (cs : Array Value) (hs : cs.size = l.length) (h1 : ∀ i d, l[i]? = some d → (cs.getD i undef).oneCell' = true)
      (h : ∀ i d, l[i]? = some d → R M w d (cs.getD i undef)) : R M w (.agg l) (.agg cs)
  | pt (l : Loc) (b o : Nat) (h : M.μ l = .blk b) : R M w (.pt l o) (.pointer (some ⟨b, o, none⟩))
  | el (row : List I) (o b off : Nat) (V : Nat → Value) (hb : M.S b) (h1 : ∀ j x, row[j]? = some x → w.cell? ⟨b, off + j, none⟩ = some (V j) ∧ (V j).oneCell' = true)
      (h2 : ∀ j x, row[j]? = some x → RI w M.S x (V j)) : R M w (.el row o) (.pointer (some ⟨b, off + o, none⟩))
  | ea (l : Loc) (sz i o : Nat) (v : Value) (b : Nat) (h : M.μ l = .own v) (hb : v.ownBlock = some b) : R M w (.ea l sz i o) (.pointer (some ⟨b, i * sz + o, none⟩))
  | os (l : Loc) (v : Value) (h : M.μ l = .own v) (hv : v.oneCell' = true) : R M w (.os l) v
  | fn (f : Fn) (first caps : List D) (v1 v2 : Array Value) (h1 : v1.size = first.length) (h2 : v2.size = caps.length)
      (r1 : ∀ i d, first[i]? = some d → R M w d (v1.getD i undef)) (r2 : ∀ i d, caps[i]? = some d → R M w d (v2.getD i undef)) : R M w (.fn f first caps) (.func f v1 v2)
  | yl (l : Loc) (b : Nat) (F : Nat → Prop) (h : M.μ l = .res F) (hb : F b) : R M w (.yl l) (.func (.yield b) #[] #[])
  | ifc (t : TypeId) (d : D) (v : Value) (h : R M w d v) : R M w (.ifc t d) (.iface t v)
  | tup (l : List D) (vs : Array Value) (hs : vs.size = l.length) (h : ∀ i d, l[i]? = some d → R M w d (vs.getD i undef)) : R M w (.tup l) (.tuple vs)
  | un : R M w .un undef
  | any (v : Value) : R M w .any v

def RB (M : Mem) (w : World) : Blk → Place → Prop
  | .cells ty ds, .blk b => ∃ c : Array Value, w.heap[b]? = some (.cells c ty (0, 0)) ∧ c.size = ds.length ∧
      ∀ i d, ds[i]? = some d → (c.getD i undef).oneCell' = true ∧ R M w d (c.getD i undef)
  | .arr ty sz rows, .own v => ∃ xs : List Value, w.ownsRow 0 ty sz v rows.length xs ∧ (∀ r, r ∈ rows → r.length = sz) ∧
      ∀ i r j x, rows[i]? = some r → r[j]? = some x → ∃ u, xs[i * sz + j]? = some u ∧ u.oneCell' = true ∧ RI w M.S x u
  | .dfr, .blk b => w.heap[b]? = some (.deferred (some []))
  | .res Φ, .res F => Φ w ∧ ∀ w' : World, (∀ b, F b → w'.heap[b]? = w.heap[b]?) → Φ w'
  | _, _ => False

structure Inv (M : Mem) (w : World) : Prop where
  inj : ∀ l l' b, (M.μ l).has b → (M.μ l').has b → l = l'
  lt : ∀ l b, (M.μ l).has b → b < w.heap.size
  sep : ∀ b, M.S b → ∀ l, ¬ (M.μ l).has b
  slt : ∀ b, M.S b → b < w.heap.size

/-- What a step may have changed. -/
structure Ext (M : Mem) (w : World) (M' : Mem) (w' : World) : Prop where
  os : w'.os = w.os
  tape : w'.tape = w.tape
  output : w'.output = w.output
  size : w.heap.size ≤ w'.heap.size
  keep : ∀ b, b < w.heap.size → (∀ l, ¬ (M.μ l).has b) → w'.heap[b]? = w.heap[b]?
  s : ∀ b, M.S b → M'.S b
  new : ∀ l b, (M'.μ l).has b → (∃ l', (M.μ l').has b) ∨ w.heap.size ≤ b
  snew : ∀ b, M'.S b → M.S b ∨ (∃ l, (M.μ l).has b) ∨ w.heap.size ≤ b

theorem Ext.refl (M : Mem) (w : World) : Ext M w M w :=
  ⟨rfl, rfl, rfl, Nat.le_refl _, fun _ _ _ => rfl, fun _ h => h, fun l _ h => .inl ⟨l, h⟩, fun _ h => .inl h⟩

theorem Ext.trans {M M1 M2 : Mem} {w w1 w2 : World} (h : Ext M w M1 w1) (k : Ext M1 w1 M2 w2) : Ext M w M2 w2 where
  os := k.os.trans h.os
  tape := k.tape.trans h.tape
  output := k.output.trans h.output
  size := Nat.le_trans h.size k.size
  keep b hb hn := (k.keep b (Nat.lt_of_lt_of_le hb h.size) (fun l hl => by
    rcases h.new l b hl with ⟨l', h'⟩ | h'
    · exact hn l' h'
    · omega)).trans (h.keep b hb hn)
  s b hb := k.s b (h.s b hb)
  new l b hl := by
    rcases k.new l b hl with ⟨l', h'⟩ | h'
    · exact h.new l' b h'
    · exact .inr (Nat.le_trans h.size h')
  snew b hb := by
    rcases k.snew b hb with h' | ⟨l, h'⟩ | h'
    · exact h.snew b h'
    · rcases h.new l b h' with h'' | h''
      · exact .inr (.inl h'')
      · exact .inr (.inr h'')
    · exact .inr (.inr (Nat.le_trans h.size h'))

theorem cell_of_heap {w w' : World} {a : Addr} (h : w'.heap[a.block]? = w.heap[a.block]?) : w'.cell? a = w.cell? a := World.cell?_of_block h

theorem RI.mono {w w' : World} {S S' : Nat → Prop} (hw : ∀ b, S b → w'.heap[b]? = w.heap[b]?) (hS : ∀ b, S b → S' b) {x : I} {v : Value} (h : RI w S x v) : RI w' S' x v := by
  induction h with
  | lit v h => exact .lit v h
  | nil f sz => exact .nil f sz
  | sl f sz rows b off cap V hb hn hc hf hz h1 h2 ih =>
    exact .sl f sz rows b off cap V (hS _ hb) hn hc hf hz (fun i r j x hi hj => by
      obtain ⟨a1, a2⟩ := h1 i r j x hi hj
      exact ⟨(cell_of_heap (a := ⟨b, off + i * sz + j, none⟩) (hw b hb)).trans a1, a2⟩) ih
  | agg l cs hs h1 h ih => exact .agg l cs hs h1 ih
  | ifc t x v h ih => exact .ifc t x v ih

/-- What is known of a value outlives a step that leaves what it leans on. -/
theorem R.mono {M M' : Mem} {w w' : World} (hw : ∀ b, M.S b → w'.heap[b]? = w.heap[b]?) (hS : ∀ b, M.S b → M'.S b)
    (hμ : ∀ l, M.μ l ≠ .dead → M'.μ l = M.μ l) {d : D} {v : Value} (h : R M w d v) : R M' w' d v := by
  induction h with
  | i x v h => exact .i x v (h.mono hw hS)
  | agg l cs hs h1 h ih => exact .agg l cs hs h1 ih
  | pt l b o h => exact .pt l b o ((hμ l (by rw [h]; simp)).trans h)
  | el row o b off V hb h1 h2 =>
    exact .el row o b off V (hS _ hb) (fun j x hj => by
      obtain ⟨a1, a2⟩ := h1 j x hj
      exact ⟨(cell_of_heap (a := ⟨b, off + j, none⟩) (hw b hb)).trans a1, a2⟩) (fun j x hj => (h2 j x hj).mono hw hS)
  | ea l sz i o v b h hb => exact .ea l sz i o v b ((hμ l (by rw [h]; simp)).trans h) hb
  | os l v h hv => exact .os l v ((hμ l (by rw [h]; simp)).trans h) hv
  | fn f first caps v1 v2 h1 h2 r1 r2 ih1 ih2 => exact .fn f first caps v1 v2 h1 h2 ih1 ih2
  | yl l b F h hb => exact .yl l b F ((hμ l (by rw [h]; simp)).trans h) hb
  | ifc t d v h ih => exact .ifc t d v ih
  | tup l vs hs h ih => exact .tup l vs hs ih
  | un => exact .un
  | any v => exact .any v

def look {α : Type} : List (Nat × α) → Nat → Option α
  | [], _ => none
  | (k, x) :: r, t => if k = t then some x else look r t

def upd {α : Type} : List (Nat × α) → Nat → α → List (Nat × α)
  | [], t, x => [(t, x)]
  | (k, y) :: r, t, x => if k = t then (t, x) :: r else (k, y) :: upd r t x

theorem look_upd {α : Type} (l : List (Nat × α)) (t : Nat) (x : α) (u : Nat) : look (upd l t x) u = if t = u then some x else look l u := by
  induction l with
  | nil => simp [upd, look]
  | cons p r ih =>
    obtain ⟨k, y⟩ := p
    simp only [upd]
    by_cases hk : k = t
    · subst hk
      simp only [if_true, look]
      split <;> simp_all
    · rw [if_neg hk]
      simp only [look, ih]
      by_cases hu : k = u
      · subst hu
        rw [if_pos rfl, if_pos rfl, if_neg (fun e => hk e.symm)]
      · rw [if_neg hu, if_neg hu]

def hlook : List (Loc × Blk) → Loc → Option Blk
  | [], _ => none
  | (k, x) :: r, t => if k = t then some x else hlook r t

def hupd : List (Loc × Blk) → Loc → Blk → List (Loc × Blk)
  | [], t, x => [(t, x)]
  | (k, y) :: r, t, x => if k = t then (t, x) :: r else (k, y) :: hupd r t x

theorem hlook_hupd (l : List (Loc × Blk)) (t : Loc) (x : Blk) (u : Loc) : hlook (hupd l t x) u = if t = u then some x else hlook l u := by
  induction l with
  | nil => simp [hupd, hlook]
  | cons p r ih =>
    obtain ⟨k, y⟩ := p
    simp only [hupd]
    by_cases hk : k = t
    · subst hk
      simp only [if_true, hlook]
      split <;> simp_all
    · rw [if_neg hk]
      simp only [hlook, ih]
      by_cases hu : k = u
      · subst hu
        rw [if_pos rfl, if_pos rfl, if_neg (fun e => hk e.symm)]
      · rw [if_neg hu, if_neg hu]

/-- The abstract state: how many slots there are, what is known of some, the parts of memory that may change, the first name that is free, the marks among the deferred calls. -/
structure St where
  n : Nat
  tm : List (Nat × D)
  hp : List (Loc × Blk)
  nx : Nat
  df : List Loc

structure Rep (M : Mem) (s : St) (w : World) (a : Act) : Prop where
  inv : Inv M w
  sz : a.tmps.size = s.n
  tm : ∀ t d, look s.tm t = some d → R M w d (a.tmps.getD t undef)
  hp : ∀ l b, hlook s.hp l = some b → RB M w b (M.μ l)
  nx : ∀ k, M.μ (.l k) ≠ .dead → k < s.nx
  df : ∃ bs : List Nat, a.defers = bs.map (fun b => { target := .collected b, args := #[] }) ∧ bs.length = s.df.length ∧ ∀ (i : Nat) (l : Loc), s.df[i]? = some l → ∃ b : Nat, bs[i]? = some b ∧ M.μ l = .blk b

/-- No fence; a frame of the usual kind, or a round's of a loop over a function. -/
def WF (r : Option Nat) : Fence := { fn := fun _ => True, depth := none, alive := false, round := r }

inductive AExit where
  | normal
  | exit (id : Nat)
  | goto (l : Nat)
  | ret
  | panic (d : D)

def RExit (M : Mem) (w : World) : AExit → Exit → Prop
  | .normal, .normal => True
  | .exit i, .exit j => i = j
  | .goto i, .goto j => i = j
  | .ret, .ret => True
  | .panic d, .panic c => ∃ v, c = [{ v := v, recovered := false }] ∧ R M w d v
  | _, _ => False

/-- From the abstract state on, the code comes to an end of which Q holds. -/
def AWP (P : Program) (r : Option Nat) (c : Code) (Q : AExit → St → Prop) (s : St) : Prop :=
  ∀ M w a, Rep M s w a → c.wpIn (WF r) 0 P (fun e a' w' => ∃ x M' s', RExit M' w' x e ∧ Rep M' s' w' a' ∧ Ext M w M' w' ∧ Q x s') a w

def AExit.then (K : St → Prop) (Q : AExit → St → Prop) : AExit → St → Prop
  | .normal, s => K s
  | x, s => Q x s

def AExit.inBlock (id : Nat) (Q : AExit → St → Prop) : AExit → St → Prop
  | .exit j, s => if j = id then Q .normal s else Q (.exit j) s
  | x, s => Q x s

section
variable {P : Program} {r : Option Nat} {Q : AExit → St → Prop} {s : St}

theorem AWP.mono {c : Code} {Q' : AExit → St → Prop} (h : AWP P r c Q s) (hq : ∀ x s, Q x s → Q' x s) : AWP P r c Q' s :=
  fun M w a hr => wpIn_mono (h M w a hr) fun _ _ _ ⟨x, M', s', h1, h2, h3, h4⟩ => ⟨x, M', s', h1, h2, h3, hq _ _ h4⟩

theorem awp_skip (h : Q .normal s) : AWP P r .skip Q s := fun M w _ hr => wpIn_skip ⟨.normal, M, s, trivial, hr, Ext.refl M w, h⟩
theorem awp_label {l : Nat} (h : Q .normal s) : AWP P r (.label l) Q s := fun M w _ hr => wpIn_label ⟨.normal, M, s, trivial, hr, Ext.refl M w, h⟩
theorem awp_exit {id : Nat} (h : Q (.exit id) s) : AWP P r (.exit id) Q s := fun M w _ hr => wpIn_exit ⟨.exit id, M, s, rfl, hr, Ext.refl M w, h⟩
theorem awp_ret (h : Q .ret s) : AWP P r .ret Q s := fun M w _ hr => wpIn_ret ⟨.ret, M, s, trivial, hr, Ext.refl M w, h⟩

theorem awp_seq {x y : Code} (h : AWP P r x (AExit.then (AWP P r y Q) Q) s) : AWP P r (.seq x y) Q s := by
  intro M w a hr
  refine wpIn_seq (wpIn_mono (h M w a hr) ?_)
  rintro e a' w' ⟨x, M', s', h1, h2, h3, h4⟩
  cases x <;> cases e <;> simp only [RExit] at h1
  · exact wpIn_mono (h4 M' w' a' h2) fun e a2 w2 ⟨x2, M2, s2, k1, k2, k3, k4⟩ => ⟨x2, M2, s2, k1, k2, h3.trans k3, k4⟩
  · exact ⟨.exit _, M', s', h1, h2, h3, h4⟩
  · exact ⟨.goto _, M', s', h1, h2, h3, h4⟩
  · exact ⟨.ret, M', s', h1, h2, h3, h4⟩
  · exact ⟨.panic _, M', s', h1, h2, h3, h4⟩

theorem awp_block {id : Nat} {c : Code} (h : AWP P r c (AExit.inBlock id Q) s) : AWP P r (.block id c) Q s := by
  intro M w a hr
  refine wpIn_block (wpIn_mono (h M w a hr) ?_)
  rintro e a' w' ⟨x, M', s', h1, h2, h3, h4⟩
  cases x <;> cases e <;> simp only [RExit] at h1
  · exact ⟨.normal, M', s', trivial, h2, h3, h4⟩
  · subst h1
    simp only [AExit.inBlock] at h4
    simp only [Exit.inBlock]
    split
    · rename_i hi
      rw [if_pos hi] at h4
      exact ⟨.normal, M', s', trivial, h2, h3, h4⟩
    · rename_i hi
      rw [if_neg hi] at h4
      exact ⟨.exit _, M', s', rfl, h2, h3, h4⟩
  · exact ⟨.goto _, M', s', h1, h2, h3, h4⟩
  · exact ⟨.ret, M', s', h1, h2, h3, h4⟩
  · exact ⟨.panic _, M', s', h1, h2, h3, h4⟩

/-- What a state knows, another one knows (of the same memory). -/
def St.le (s s' : St) : Prop := ∀ M w a, Rep M s w a → ∃ M', Rep M' s' w a ∧ Ext M w M' w

theorem St.le.refl (s : St) : s.le s := fun M w _ h => ⟨M, h, Ext.refl M w⟩

theorem awp_weaken {c : Code} {s' : St} (hs : s.le s') (h : AWP P r c Q s') : AWP P r c Q s := by
  intro M w a hr
  obtain ⟨M', hr', he⟩ := hs M w a hr
  exact wpIn_mono (h M' w a hr') fun _ _ _ ⟨x, M2, s2, k1, k2, k3, k4⟩ => ⟨x, M2, s2, k1, k2, he.trans k3, k4⟩

def litB : Value → Bool
  | .string s => decide (s.size ≤ 1000000)
  | .agg _ => false
  | .tuple _ => false
  | _ => true

theorem litB_ok {v : Value} (h : litB v = true) : litOk v := by
  cases v <;> simp_all [litB, litOk]
  rename_i s
  exact Nat.le_trans h (by decide)

def constD : Value → D
  | .agg cs => if cs.toList.all litB then .agg (cs.toList.map fun c => .i (.lit c)) else .any
  | v => if litB v then .i (.lit v) else .any

def valD (s : St) : Operand → D
  | .tmp t => (look s.tm t).getD .any
  | .const v => constD v
  | .func f => .fn (.func f) [] []
  | .global _ => .any

theorem awp_cond {c : Operand} {x y : Code} (b : Bool) (hc : valD s c = .i (.lit (.bool b))) (ht : b = true → AWP P r x Q s) (hf : b = false → AWP P r y Q s) : AWP P r (.cond c x y) Q s := by
  intro M w a hr
  have hv : a.eval c = .bool b := by
    cases c with
    | tmp t =>
      simp only [valD] at hc
      cases hl : look s.tm t with
      | none => rw [hl] at hc; simp at hc
      | some d =>
        rw [hl] at hc
        simp only [Option.getD_some] at hc
        subst hc
        have h1 := hr.tm t _ hl
        show a.tmps.getD t undef = .bool b
        generalize a.tmps.getD t undef = v at h1
        cases h1 with
        | i _ _ h => cases h; rfl
    | const v =>
      simp only [valD, constD] at hc
      split at hc
      · split at hc <;> cases hc
      · split at hc
        · cases hc; rfl
        · cases hc
    | func f => simp [valD] at hc
    | global g => simp [valD] at hc
  cases b with
  | true => exact wpIn_cond_true hv (ht rfl M w a hr)
  | false => exact wpIn_cond_false hv (hf rfl M w a hr)

theorem wpIn_loop_rel {F : Fence} {n : Nat} {Q : Exit → Act → World → Prop} {c : Code} (J : Nat → Act → World → Prop)
    (round : ∀ j a w, J j a w → c.wpIn F n P (Exit.then (fun a' w' => ∃ j', j' < j ∧ J j' a' w') Q) a w) (j : Nat) : ∀ a w, J j a w → (Code.loop c).wpIn F n P Q a w := by
  have key : ∀ j a w, J j a w → ∀ (b : Frame) (k : List Item) (cs : List Frame), b.roundOf = F.round → F.fn b.fn → F.room (cs.length + 1 + n) →
      ∃ e a' w', Q e a' w' ∧ ArrivesIn (Machine.fenced P F) P (lone (b.atR a (.code c :: .inLoop c :: k)) cs w) b k cs e a' w' := by
    intro j
    induction j using Nat.strongRecOn with
    | _ j ih =>
      intro a w hJ b k cs hro hb hr
      obtain ⟨e, a₁, w₁, hq, harr⟩ := round j a w hJ b (.inLoop c :: k) cs hro hb hr
      cases e with
      | normal =>
        obtain ⟨j', hlt, hJ'⟩ := hq
        obtain ⟨e₂, a₂, w₂, hq₂, harr₂⟩ := ih j' hlt a₁ w₁ hJ' b k cs hro hb hr
        exact ⟨e₂, a₂, w₂, hq₂, .of_steps (StepsIn.trans harr (.one (fenced_calm hb hr rfl) stepR_inLoop)) harr₂⟩
      | exit id => exact ⟨_, a₁, w₁, hq, .pass (x := .inLoop c) rfl (fun _ _ => .inl (by simp)) harr⟩
      | goto l => exact ⟨_, a₁, w₁, hq, .pass (x := .inLoop c) rfl (fun _ _ => .inl (by simp)) harr⟩
      | ret => exact ⟨_, a₁, w₁, hq, .pass (x := .inLoop c) rfl (fun _ _ => .inl (by simp)) harr⟩
      | panic ch => exact ⟨_, a₁, w₁, hq, .pass (x := .inLoop c) rfl (fun _ _ => .inl (by simp)) harr⟩
      | outgrown => exact ⟨_, a₁, w₁, hq, .pass (x := .inLoop c) rfl (fun _ _ => .inl (by simp)) harr⟩
  intro a w hJ b k cs hro hb hr
  obtain ⟨e, a', w', hq, harr⟩ := key j a w hJ b k cs hro hb hr
  exact ⟨e, a', w', hq, .of_steps (.one (fenced_calm hb hr rfl) stepR_loop) harr⟩

/-- A loop: its heads are the states 'S x', x of whatever type; a round lowers a measure of x. -/
theorem awp_loop {c : Code} {α : Type} (S : α → St) (m : α → Nat) (x0 : α) (h0 : s.le (S x0))
    (round : ∀ x, AWP P r c (AExit.then (fun s' => ∃ y, s'.le (S y) ∧ m y < m x) Q) (S x)) : AWP P r (.loop c) Q s := by
  intro M w a hr
  refine wpIn_loop_rel (fun j a' w' => ∃ M' x, m x = j ∧ Rep M' (S x) w' a' ∧ Ext M w M' w') ?_ (m x0) a w ?_
  · rintro j a1 w1 ⟨M1, x, rfl, hr1, he1⟩
    refine wpIn_mono (round x M1 w1 a1 hr1) ?_
    rintro e a' w' ⟨z, M', s', h1, h2, h3, h4⟩
    cases z <;> cases e <;> simp only [RExit] at h1
    · obtain ⟨y, hy, hlt⟩ := h4
      obtain ⟨M2, h5, h6⟩ := hy M' w' a' h2
      exact ⟨m y, hlt, M2, y, rfl, h5, (he1.trans h3).trans h6⟩
    · exact ⟨.exit _, M', s', h1, h2, he1.trans h3, h4⟩
    · exact ⟨.goto _, M', s', h1, h2, he1.trans h3, h4⟩
    · exact ⟨.ret, M', s', h1, h2, he1.trans h3, h4⟩
    · exact ⟨.panic _, M', s', h1, h2, he1.trans h3, h4⟩
  · obtain ⟨M', hr', he⟩ := h0 M w a hr
    exact ⟨M', x0, rfl, hr', he⟩
end
end Go.Aw
