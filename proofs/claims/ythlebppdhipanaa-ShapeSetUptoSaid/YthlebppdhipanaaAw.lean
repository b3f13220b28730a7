/-
  Pure data for Go's values, and how they lie in a world; an abstract state of a running function; its relation to the machine's.
-/
import Derived.RangeFuncIn
import Derived.OrdersIn
import Derived.Maps.AppendAt
import Derived.WalkKit
import Derived.Laws.Tables
import Derived.Laws.MakeOwn
import Derived.Lib.Strings
set_option linter.all false
namespace Go.Aw

/-- A name of a part of memory that may change: of the caller's, or of the call's own. -/
inductive Loc where
  | a (i : Nat)
  | l (i : Nat)
  deriving DecidableEq

/-- Data that does not change any more. -/
inductive I where
  | lit (v : Value)
  | sl (full : Bool) (sz : Nat) (rows : List (List I))
  | agg (l : List I)
  | ifc (t : TypeId) (x : I)

/-- Data that may lead to what changes. -/
inductive D where
  | i (x : I)
  | agg (l : List D)
  | pt (l : Loc) (o : Nat)
  | el (row : List I) (o : Nat)
  | ea (l : Loc) (sz i o : Nat)
  | os (l : Loc)
  | fn (f : Fn) (first caps : List D)
  | yl (l : Loc)
  | ifc (t : TypeId) (d : D)
  | tup (l : List D)
  | un
  | any

inductive Blk where
  | cells (ty : TypeId) (ds : List D)
  | arr (ty : TypeId) (sz : Nat) (rows : List (List I))
  | dfr
  | res (Φ : World → Prop)

/-- Where a part of memory lies. -/
inductive Place where
  | dead
  | blk (b : Nat)
  | own (v : Value)
  | res (F : Nat → Prop)

def Place.has : Place → Nat → Prop
  | .dead, _ => False
  | .blk b, n => n = b
  | .own v, n => v.ownBlock = some n
  | .res F, n => F n

structure Mem where
  μ : Loc → Place
  S : Nat → Prop

def litOk : Value → Prop
  | .string s => s.size ≤ maxLen
  | .agg _ => False
  | .tuple _ => False
  | _ => True

inductive RI (w : World) (S : Nat → Prop) : I → Value → Prop
  | lit (v : Value) (h : litOk v) : RI w S (.lit v) v
  | nil (f : Bool) (sz : Nat) : RI w S (.sl f sz []) (.slice none 0 0)
  | sl (f : Bool) (sz : Nat) (rows : List (List I)) (b off cap : Nat) (V : Nat → Nat → Value) (hb : S b) (hn : rows.length ≤ cap) (hc : cap ≤ maxLen)
      (hf : f = true → cap = rows.length) (hz : ∀ r, r ∈ rows → r.length = sz)
      (h1 : ∀ i r j x, rows[i]? = some r → r[j]? = some x → w.cell? ⟨b, off + i * sz + j, none⟩ = some (V i j) ∧ (V i j).oneCell' = true)
      (h2 : ∀ i r j x, rows[i]? = some r → r[j]? = some x → RI w S x (V i j)) : RI w S (.sl f sz rows) (.slice (some ⟨b, off, none⟩) rows.length cap)
  | agg (l : List I) (cs : Array Value) (hs : cs.size = l.length) (h1 : ∀ i x, l[i]? = some x → (cs.getD i undef).oneCell' = true)
      (h : ∀ i x, l[i]? = some x → RI w S x (cs.getD i undef)) : RI w S (.agg l) (.agg cs)
  | ifc (t : TypeId) (x : I) (v : Value) (h : RI w S x v) : RI w S (.ifc t x) (.iface t v)

inductive R (M : Mem) (w : World) : D → Value → Prop
  | i (x : I) (v : Value) (h : RI w M.S x v) : R M w (.i x) v
  | agg (l : List D) (cs : Array Value) (hs : cs.size = l.length) (h1 : ∀ i d, l[i]? = some d → (cs.getD i undef).oneCell' = true)
      (h : ∀ i d, l[i]? = some d → R M w d (cs.getD i undef)) : R M w (.agg l) (.agg cs)
  | pt (l : Loc) (b o : Nat) (h : M.μ l = .blk b) : R M w (.pt l o) (.pointer (some ⟨b, o, none⟩))
  | el (row : List I) (o b off : Nat) (V : Nat → Value) (hb : M.S b) (h1 : ∀ j x, row[j]? = some x → w.cell? ⟨b, off + j, none⟩ = some (V j) ∧ (V j).oneCell' = true)
      (h2 : ∀ j x, row[j]? = some x → RI w M.S x (V j)) : R M w (.el row o) (.pointer (some ⟨b, off + o, none⟩))
  | ea (l : Loc) (sz i o : Nat) (v : Value) (b : Nat) (h : M.μ l = .own v) (hb : v.ownBlock = some b) : R M w (.ea l sz i o) (.pointer (some ⟨b, i * sz + o, none⟩))
  | os (l : Loc) (v : Value) (h : M.μ l = .own v) (hv : v.oneCell' = true) : R M w (.os l) v
  | fn (f : Fn) (first caps : List D) (v1 v2 : Array Value) (h1 : v1.size = first.length) (h2 : v2.size = caps.length)
      (r1 : ∀ i d, first[i]? = some d → R M w d (v1.getD i undef)) (r2 : ∀ i d, caps[i]? = some d → R M w d (v2.getD i undef)) : R M w (.fn f first caps) (.func f v1 v2)
  | yl (l : Loc) (b : Nat) (F : Nat → Prop) (h : M.μ l = .res F) (hb : F b) : R M w (.yl l) (.func (.yield b) #[] #[])
  | ifc (t : TypeId) (d : D) (v : Value) (h : R M w d v) : R M w (.ifc t d) (.iface t v)
  | tup (l : List D) (vs : Array Value) (hs : vs.size = l.length) (h : ∀ i d, l[i]? = some d → R M w d (vs.getD i undef)) : R M w (.tup l) (.tuple vs)
  | un : R M w .un undef
  | any (v : Value) : R M w .any v

def RB (M : Mem) (w : World) : Blk → Place → Prop
  | .cells ty ds, .blk b => ∃ c : Array Value, w.heap[b]? = some (.cells c ty (0, 0)) ∧ c.size = ds.length ∧
      ∀ i d, ds[i]? = some d → (c.getD i undef).oneCell' = true ∧ R M w d (c.getD i undef)
  | .arr ty sz rows, .own v => ∃ xs : List Value, w.ownsRow 0 ty sz v rows.length xs ∧ (∀ r, r ∈ rows → r.length = sz) ∧
      ∀ i r j x, rows[i]? = some r → r[j]? = some x → ∃ u, xs[i * sz + j]? = some u ∧ u.oneCell' = true ∧ RI w M.S x u
  | .dfr, .blk b => w.heap[b]? = some (.deferred (some []))
  | .res Φ, .res F => Φ w ∧ ∀ w' : World, (∀ b, F b → w'.heap[b]? = w.heap[b]?) → Φ w'
  | _, _ => False

structure Inv (M : Mem) (w : World) : Prop where
  inj : ∀ l l' b, (M.μ l).has b → (M.μ l').has b → l = l'
  lt : ∀ l b, (M.μ l).has b → b < w.heap.size
  sep : ∀ b, M.S b → ∀ l, ¬ (M.μ l).has b
  slt : ∀ b, M.S b → b < w.heap.size

/-- What a step may have changed. -/
structure Ext (M : Mem) (w : World) (M' : Mem) (w' : World) : Prop where
  os : w'.os = w.os
  tape : w'.tape = w.tape
  output : w'.output = w.output
  size : w.heap.size ≤ w'.heap.size
  keep : ∀ b, b < w.heap.size → (∀ l, ¬ (M.μ l).has b) → w'.heap[b]? = w.heap[b]?
  s : ∀ b, M.S b → M'.S b
  new : ∀ l b, (M'.μ l).has b → (∃ l', (M.μ l').has b) ∨ w.heap.size ≤ b
  snew : ∀ b, M'.S b → M.S b ∨ (∃ l, (M.μ l).has b) ∨ w.heap.size ≤ b

theorem Ext.refl (M : Mem) (w : World) : Ext M w M w :=
  ⟨rfl, rfl, rfl, Nat.le_refl _, fun _ _ _ => rfl, fun _ h => h, fun l _ h => .inl ⟨l, h⟩, fun _ h => .inl h⟩

theorem Ext.trans {M M1 M2 : Mem} {w w1 w2 : World} (h : Ext M w M1 w1) (k : Ext M1 w1 M2 w2) : Ext M w M2 w2 where
  os := k.os.trans h.os
  tape := k.tape.trans h.tape
  output := k.output.trans h.output
  size := Nat.le_trans h.size k.size
  keep b hb hn := (k.keep b (Nat.lt_of_lt_of_le hb h.size) (fun l hl => by
    rcases h.new l b hl with ⟨l', h'⟩ | h'
    · exact hn l' h'
    · omega)).trans (h.keep b hb hn)
  s b hb := k.s b (h.s b hb)
  new l b hl := by
    rcases k.new l b hl with ⟨l', h'⟩ | h'
    · exact h.new l' b h'
    · exact .inr (Nat.le_trans h.size h')
  snew b hb := by
    rcases k.snew b hb with h' | ⟨l, h'⟩ | h'
    · exact h.snew b h'
    · rcases h.new l b h' with h'' | h''
      · exact .inr (.inl h'')
      · exact .inr (.inr h'')
    · exact .inr (.inr (Nat.le_trans h.size h'))

theorem cell_of_heap {w w' : World} {a : Addr} (h : w'.heap[a.block]? = w.heap[a.block]?) : w'.cell? a = w.cell? a := World.cell?_of_block h

theorem RI.mono {w w' : World} {S S' : Nat → Prop} (hw : ∀ b, S b → w'.heap[b]? = w.heap[b]?) (hS : ∀ b, S b → S' b) {x : I} {v : Value} (h : RI w S x v) : RI w' S' x v := by
  induction h with
  | lit v h => exact .lit v h
  | nil f sz => exact .nil f sz
  | sl f sz rows b off cap V hb hn hc hf hz h1 h2 ih =>
    exact .sl f sz rows b off cap V (hS _ hb) hn hc hf hz (fun i r j x hi hj => by
      obtain ⟨a1, a2⟩ := h1 i r j x hi hj
      exact ⟨(cell_of_heap (a := ⟨b, off + i * sz + j, none⟩) (hw b hb)).trans a1, a2⟩) ih
  | agg l cs hs h1 h ih => exact .agg l cs hs h1 ih
  | ifc t x v h ih => exact .ifc t x v ih

/-- What is known of a value outlives a step that leaves what it leans on. -/
theorem R.mono {M M' : Mem} {w w' : World} (hw : ∀ b, M.S b → w'.heap[b]? = w.heap[b]?) (hS : ∀ b, M.S b → M'.S b)
    (hμ : ∀ l, M.μ l ≠ .dead → M'.μ l = M.μ l) {d : D} {v : Value} (h : R M w d v) : R M' w' d v := by
  induction h with
  | i x v h => exact .i x v (h.mono hw hS)
  | agg l cs hs h1 h ih => exact .agg l cs hs h1 ih
  | pt l b o h => exact .pt l b o ((hμ l (by rw [h]; simp)).trans h)
  | el row o b off V hb h1 h2 =>
    exact .el row o b off V (hS _ hb) (fun j x hj => by
      obtain ⟨a1, a2⟩ := h1 j x hj
      exact ⟨(cell_of_heap (a := ⟨b, off + j, none⟩) (hw b hb)).trans a1, a2⟩) (fun j x hj => (h2 j x hj).mono hw hS)
  | ea l sz i o v b h hb => exact .ea l sz i o v b ((hμ l (by rw [h]; simp)).trans h) hb
  | os l v h hv => exact .os l v ((hμ l (by rw [h]; simp)).trans h) hv
  | fn f first caps v1 v2 h1 h2 r1 r2 ih1 ih2 => exact .fn f first caps v1 v2 h1 h2 ih1 ih2
  | yl l b F h hb => exact .yl l b F ((hμ l (by rw [h]; simp)).trans h) hb
  | ifc t d v h ih => exact .ifc t d v ih
  | tup l vs hs h ih => exact .tup l vs hs ih
  | un => exact .un
  | any v => exact .any v

def look {α : Type} : List (Nat × α) → Nat → Option α
  | [], _ => none
  | (k, x) :: r, t => if k = t then some x else look r t

def upd {α : Type} : List (Nat × α) → Nat → α → List (Nat × α)
  | [], t, x => [(t, x)]
  | (k, y) :: r, t, x => if k = t then (t, x) :: r else (k, y) :: upd r t x

theorem look_upd {α : Type} (l : List (Nat × α)) (t : Nat) (x : α) (u : Nat) : look (upd l t x) u = if t = u then some x else look l u := by
  induction l with
  | nil => simp [upd, look]
  | cons p r ih =>
    obtain ⟨k, y⟩ := p
    simp only [upd]
    by_cases hk : k = t
    · subst hk
      simp only [if_true, look]
      split <;> simp_all
    · rw [if_neg hk]
      simp only [look, ih]
      by_cases hu : k = u
      · subst hu
        rw [if_pos rfl, if_pos rfl, if_neg (fun e => hk e.symm)]
      · rw [if_neg hu, if_neg hu]

def hlook : List (Loc × Blk) → Loc → Option Blk
  | [], _ => none
  | (k, x) :: r, t => if k = t then some x else hlook r t

def hupd : List (Loc × Blk) → Loc → Blk → List (Loc × Blk)
  | [], t, x => [(t, x)]
  | (k, y) :: r, t, x => if k = t then (t, x) :: r else (k, y) :: hupd r t x

theorem hlook_hupd (l : List (Loc × Blk)) (t : Loc) (x : Blk) (u : Loc) : hlook (hupd l t x) u = if t = u then some x else hlook l u := by
  induction l with
  | nil => simp [hupd, hlook]
  | cons p r ih =>
    obtain ⟨k, y⟩ := p
    simp only [hupd]
    by_cases hk : k = t
    · subst hk
      simp only [if_true, hlook]
      split <;> simp_all
    · rw [if_neg hk]
      simp only [hlook, ih]
      by_cases hu : k = u
      · subst hu
        rw [if_pos rfl, if_pos rfl, if_neg (fun e => hk e.symm)]
      · rw [if_neg hu, if_neg hu]

/-- The abstract state: how many slots there are, what is known of some, the parts of memory that may change, the first name that is free, the marks among the deferred calls. -/
structure St where
  n : Nat
  tm : List (Nat × D)
  hp : List (Loc × Blk)
  nx : Nat
  df : List Loc

structure Rep (M : Mem) (s : St) (w : World) (a : Act) : Prop where
  inv : Inv M w
  sz : a.tmps.size = s.n
  tm : ∀ t d, look s.tm t = some d → R M w d (a.tmps.getD t undef)
  hp : ∀ l b, hlook s.hp l = some b → RB M w b (M.μ l)
  nx : ∀ k, M.μ (.l k) ≠ .dead → k < s.nx
  df : ∃ bs : List Nat, a.defers = bs.map (fun b => { target := .collected b, args := #[] }) ∧ bs.length = s.df.length ∧ ∀ (i : Nat) (l : Loc), s.df[i]? = some l → ∃ b : Nat, bs[i]? = some b ∧ M.μ l = .blk b

/-- No fence; a frame of the usual kind, or a round's of a loop over a function. -/
def WF (r : Option Nat) : Fence := { fn := fun _ => True, depth := none, alive := false, round := r }

inductive AExit where
  | normal
  | exit (id : Nat)
  | goto (l : Nat)
  | ret
  | panic (d : D)

def RExit (M : Mem) (w : World) : AExit → Exit → Prop
  | .normal, .normal => True
  | .exit i, .exit j => i = j
  | .goto i, .goto j => i = j
  | .ret, .ret => True
  | .panic d, .panic c => ∃ v, c = [{ v := v, recovered := false }] ∧ R M w d v
  | _, _ => False

/-- From the abstract state on, the code comes to an end of which Q holds. -/
def AWP (P : Program) (r : Option Nat) (c : Code) (Q : AExit → St → Prop) (s : St) : Prop :=
  ∀ M w a, Rep M s w a → c.wpIn (WF r) 0 P (fun e a' w' => ∃ x M' s', RExit M' w' x e ∧ Rep M' s' w' a' ∧ Ext M w M' w' ∧ Q x s') a w

def AExit.then (K : St → Prop) (Q : AExit → St → Prop) : AExit → St → Prop
  | .normal, s => K s
  | x, s => Q x s

def AExit.inBlock (id : Nat) (Q : AExit → St → Prop) : AExit → St → Prop
  | .exit j, s => if j = id then Q .normal s else Q (.exit j) s
  | x, s => Q x s

section
variable {P : Program} {r : Option Nat} {Q : AExit → St → Prop} {s : St}

theorem AWP.mono {c : Code} {Q' : AExit → St → Prop} (h : AWP P r c Q s) (hq : ∀ x s, Q x s → Q' x s) : AWP P r c Q' s :=
  fun M w a hr => wpIn_mono (h M w a hr) fun _ _ _ ⟨x, M', s', h1, h2, h3, h4⟩ => ⟨x, M', s', h1, h2, h3, hq _ _ h4⟩

/-- What a state knows, another one knows (of the same memory). -/
def St.le (s s' : St) : Prop := ∀ M w a, Rep M s w a → ∃ M', Rep M' s' w a ∧ Ext M w M' w

theorem St.le.refl (s : St) : s.le s := fun M w _ h => ⟨M, h, Ext.refl M w⟩

def litB : Value → Bool
  | .string s => decide (s.size ≤ 1000000)
  | .agg _ => false
  | .tuple _ => false
  | _ => true

theorem litB_ok {v : Value} (h : litB v = true) : litOk v := by
  cases v <;> simp_all [litB, litOk]
  rename_i s
  exact Nat.le_trans h (by decide)

def constD : Value → D
  | .agg cs => if cs.toList.all litB then .agg (cs.toList.map fun c => .i (.lit c)) else .any
  | v => if litB v then .i (.lit v) else .any

def valD (s : St) : Operand → D
  | .tmp t => (look s.tm t).getD .any
  | .const v => constD v
  | .func f => .fn (.func f) [] []
  | .global _ => .any

theorem wpIn_loop_rel {F : Fence} {n : Nat} {Q : Exit → Act → World → Prop} {c : Code} (J : Nat → Act → World → Prop)
    (round : ∀ j a w, J j a w → c.wpIn F n P (Exit.then (fun a' w' => ∃ j', j' < j ∧ J j' a' w') Q) a w) (j : Nat) : ∀ a w, J j a w → (Code.loop c).wpIn F n P Q a w := by
  have key : ∀ j a w, J j a w → ∀ (b : Frame) (k : List Item) (cs : List Frame), b.roundOf = F.round → F.fn b.fn → F.room (cs.length + 1 + n) →
      ∃ e a' w', Q e a' w' ∧ ArrivesIn (Machine.fenced P F) P (lone (b.atR a (.code c :: .inLoop c :: k)) cs w) b k cs e a' w' := by
    intro j
    induction j using Nat.strongRecOn with
    | _ j ih =>
      intro a w hJ b k cs hro hb hr
      obtain ⟨e, a₁, w₁, hq, harr⟩ := round j a w hJ b (.inLoop c :: k) cs hro hb hr
      cases e with
      | normal =>
        obtain ⟨j', hlt, hJ'⟩ := hq
        obtain ⟨e₂, a₂, w₂, hq₂, harr₂⟩ := ih j' hlt a₁ w₁ hJ' b k cs hro hb hr
        exact ⟨e₂, a₂, w₂, hq₂, .of_steps (StepsIn.trans harr (.one (fenced_calm hb hr rfl) stepR_inLoop)) harr₂⟩
      | exit id => exact ⟨_, a₁, w₁, hq, .pass (x := .inLoop c) rfl (fun _ _ => .inl (by simp)) harr⟩
      | goto l => exact ⟨_, a₁, w₁, hq, .pass (x := .inLoop c) rfl (fun _ _ => .inl (by simp)) harr⟩
      | ret => exact ⟨_, a₁, w₁, hq, .pass (x := .inLoop c) rfl (fun _ _ => .inl (by simp)) harr⟩
      | panic ch => exact ⟨_, a₁, w₁, hq, .pass (x := .inLoop c) rfl (fun _ _ => .inl (by simp)) harr⟩
      | outgrown => exact ⟨_, a₁, w₁, hq, .pass (x := .inLoop c) rfl (fun _ _ => .inl (by simp)) harr⟩
  intro a w hJ b k cs hro hb hr
  obtain ⟨e, a', w', hq, harr⟩ := key j a w hJ b k cs hro hb hr
  exact ⟨e, a', w', hq, .of_steps (.one (fenced_calm hb hr rfl) stepR_loop) harr⟩

end
end Go.Aw

/-
  Steps of the abstract state: what is known of types; slots that are written; memory that is made, written, forgotten.
-/
namespace Go.Aw

/-! ### Types -/
inductive Z where
  | zb | zn (k : IntKind) | zs | zp | zl | zm | zf | zi
  deriving DecidableEq

def Z.val : Z → Value
  | .zb => .bool false
  | .zn k => .int k 0
  | .zs => .string ⟨#[]⟩
  | .zp => .pointer none
  | .zl => .slice none 0 0
  | .zm => .map none
  | .zf => .nilFunc
  | .zi => .nilIface

def Z.of : Value → Option Z
  | .bool b => if b then none else some .zb
  | .int k x => if x = 0 then some (.zn k) else none
  | .string s => match s with | ⟨⟨[]⟩⟩ => some .zs | _ => none
  | .pointer none => some .zp
  | .slice none 0 0 => some .zl
  | .map none => some .zm
  | .nilFunc => some .zf
  | .nilIface => some .zi
  | _ => none

theorem Z.of_val {v : Value} {z : Z} (h : Z.of v = some z) : v = z.val := by
  unfold Z.of at h
  split at h <;> (try (split at h)) <;> simp_all [Z.val] <;> (try (subst h; rfl)) <;> (try (cases h; rfl))

inductive TK where
  | oth | bool | str | ifc | int (k : IntKind) | sl (e : TypeId) | arr (n : Nat) (e : TypeId) | st (fs : List (Nat × TypeId))
  deriving DecidableEq

structure TI where
  size : Nat
  bytes : Nat
  k : TK
  z : List Z
  deriving DecidableEq

def TK.agg : TK → Bool
  | .arr _ _ => true
  | .st _ => true
  | _ => false

def TI.agg (t : TI) : Bool := t.k.agg

def kOf : TypeDesc → TK
  | .bool => .bool
  | .int k => .int k
  | .string => .str
  | .slice e => .sl e
  | .array n e => .arr n e
  | .struct F => .st (F.toList.map fun f => (f.offset, f.type))
  | .interface _ => .ifc
  | _ => .oth

def isAggV : Value → Bool
  | .agg _ => true
  | _ => false

def tiOf (P : Program) (t : TypeId) : Option TI :=
  match P.info? t, P.underlying t with
  | some i, some d =>
    match i.zero with
    | some z =>
      match z.cells.toList.mapM Z.of with
      | some zs => if zs.length = i.size ∧ isAggV z = (kOf d).agg then some { size := i.size, bytes := i.bytes, k := kOf d, z := zs } else none
      | none => none
    | none => none
  | _, _ => none

structure TIs (P : Program) (t : TypeId) (ti : TI) (i : TypeInfo) (d : TypeDesc) (z : Value) : Prop where
  info : P.info? t = some i
  und : P.underlying t = some d
  size : i.size = ti.size
  bytes : i.bytes = ti.bytes
  zero : i.zero = some z
  cells : z.cells.toList = ti.z.map Z.val
  k : ti.k = kOf d
  len : ti.z.length = ti.size
  ag : isAggV z = ti.agg

theorem mapM_of : ∀ (l : List Value) (zs : List Z), l.mapM Z.of = some zs → l = zs.map Z.val := by
  intro l
  induction l with
  | nil => intro zs h; simp at h; subst h; rfl
  | cons v l ih =>
    intro zs h
    simp only [List.mapM_cons, Option.bind_eq_bind, Option.bind_eq_some_iff, Option.pure_def, Option.some.injEq] at h
    obtain ⟨z, hz, zs', hzs, rfl⟩ := h
    simp [ih zs' hzs, Z.of_val hz]

theorem tiOf_spec {P : Program} {t : TypeId} {ti : TI} (h : tiOf P t = some ti) : ∃ i d z, TIs P t ti i d z := by
  unfold tiOf at h
  split at h
  · rename_i i d hi hd
    split at h
    · rename_i z hz
      split at h
      · rename_i zs hzs
        split at h
        · rename_i hc
          cases h
          exact ⟨i, d, z, hi, hd, rfl, rfl, hz, mapM_of _ _ hzs, rfl, hc.1, hc.2⟩
        · cases h
      · cases h
    · cases h
  · cases h

/-! ### Slots -/
def St.put (s : St) : Option Tmp → D → St
  | none, _ => s
  | some t, d => { s with tm := upd s.tm t d }

def St.room (s : St) : Option Tmp → Prop
  | none => True
  | some t => t < s.n

theorem Rep.put {M : Mem} {s : St} {w : World} {a : Act} (h : Rep M s w a) {dst : Option Tmp} {d : D} {v : Value} (hd : R M w d v) (hr : s.room dst) : Rep M (s.put dst d) w (a.put dst v) := by
  cases dst with
  | none => exact h
  | some t =>
    have ht : t < a.tmps.size := by rw [h.sz]; exact hr
    refine ⟨h.inv, by simpa [Act.put, St.put] using h.sz, fun u e hu => ?_, h.hp, h.nx, h.df⟩
    simp only [St.put, look_upd] at hu
    simp only [Act.put]
    by_cases htu : t = u
    · subst htu
      rw [if_pos rfl] at hu
      cases hu
      simpa [Array.getD, ht] using hd
    · rw [if_neg htu] at hu
      have := h.tm u e hu
      have e : (a.tmps.setIfInBounds t v).getD u undef = a.tmps.getD u undef := by
        simp [Array.getD_eq_getD_getElem?, Array.getElem?_setIfInBounds_ne htu]
      rw [e]
      exact this

/-- What an operand's value is. -/
theorem Rep.val {M : Mem} {s : St} {w : World} {a : Act} (h : Rep M s w a) (x : Operand) : R M w (valD s x) (a.eval x) := by
  cases x with
  | tmp t =>
    simp only [valD]
    cases hl : look s.tm t with
    | none => exact .any _
    | some d => exact h.tm t d hl
  | const v =>
    simp only [valD, Act.eval, constD]
    split
    · rename_i cs
      split
      · rename_i hc
        have hl : ∀ c, c ∈ cs.toList → litOk c := fun c hm => litB_ok (List.all_eq_true.1 hc c hm)
        refine .agg _ _ (by simp) (fun i d hi => ?_) (fun i d hi => ?_)
        · simp only [List.getElem?_map, Array.getElem?_toList, Option.map_eq_some_iff] at hi
          obtain ⟨c, hc1, rfl⟩ := hi
          have := hl c (by rw [Array.mem_toList_iff]; exact Array.mem_of_getElem? hc1)
          rw [show cs.getD i undef = c by simp [Array.getD_eq_getD_getElem?, hc1]]
          cases c <;> simp_all [litOk, Value.oneCell']
        · simp only [List.getElem?_map, Array.getElem?_toList, Option.map_eq_some_iff] at hi
          obtain ⟨c, hc1, rfl⟩ := hi
          have := hl c (by rw [Array.mem_toList_iff]; exact Array.mem_of_getElem? hc1)
          rw [show cs.getD i undef = c by simp [Array.getD_eq_getD_getElem?, hc1]]
          exact .i _ _ (.lit _ this)
      · exact .any _
    · split
      · rename_i hb
        exact .i _ _ (.lit _ (litB_ok hb))
      · exact .any _
  | func f => exact .fn _ _ _ _ _ rfl rfl (fun i d hi => by simp at hi) (fun i d hi => by simp at hi)
  | global g => exact .any _

/-! ### Forgetting a part of memory -/
mutual
def D.kill (l : Loc) : D → D
  | .i x => .i x
  | .agg ds => .agg (D.killL l ds)
  | .pt k o => if k = l then .any else .pt k o
  | .el r o => .el r o
  | .ea k sz j o => if k = l then .any else .ea k sz j o
  | .os k => if k = l then .any else .os k
  | .fn f ds es => .fn f (D.killL l ds) (D.killL l es)
  | .yl k => if k = l then .any else .yl k
  | .ifc t d => .ifc t (D.kill l d)
  | .tup ds => .tup (D.killL l ds)
  | .un => .un
  | .any => .any
def D.killL (l : Loc) : List D → List D
  | [] => []
  | d :: r => D.kill l d :: D.killL l r
end

theorem killL_get (l : Loc) : ∀ (ds : List D) (i : Nat), (D.killL l ds)[i]? = (ds[i]?).map (D.kill l)
  | [], i => by simp [D.killL]
  | d :: r, 0 => by simp [D.killL]
  | d :: r, i + 1 => by simp [D.killL, killL_get l r i]

theorem killL_length (l : Loc) : ∀ ds : List D, (D.killL l ds).length = ds.length
  | [] => rfl
  | d :: r => by simp [D.killL, killL_length l r]

def Blk.kill (l : Loc) : Blk → Blk
  | .cells ty ds => .cells ty (D.killL l ds)
  | b => b

theorem R.kill {M M' : Mem} {w w' : World} {l : Loc} (hw : ∀ b, M.S b → w'.heap[b]? = w.heap[b]?) (hS : ∀ b, M.S b → M'.S b)
    (hμ : ∀ k, k ≠ l → M.μ k ≠ .dead → M'.μ k = M.μ k) {d : D} {v : Value} (h : R M w d v) : R M' w' (d.kill l) v := by
  induction h with
  | i x v h => exact .i x v (h.mono hw hS)
  | agg ds cs hs h1 h ih =>
    refine .agg _ cs (by rw [hs, killL_length]) (fun i d hi => ?_) (fun i d hi => ?_)
    · rw [killL_get, Option.map_eq_some_iff] at hi
      obtain ⟨d', hd', rfl⟩ := hi
      exact h1 i d' hd'
    · rw [killL_get, Option.map_eq_some_iff] at hi
      obtain ⟨d', hd', rfl⟩ := hi
      exact ih i d' hd'
  | pt k b o h =>
    simp only [D.kill]
    split
    · exact .any _
    · rename_i hk; exact .pt k b o ((hμ k hk (by rw [h]; simp)).trans h)
  | el row o b off V hb h1 h2 =>
    exact .el row o b off V (hS _ hb) (fun j x hj => by
      obtain ⟨a1, a2⟩ := h1 j x hj
      exact ⟨(cell_of_heap (a := ⟨b, off + j, none⟩) (hw b hb)).trans a1, a2⟩) (fun j x hj => (h2 j x hj).mono hw hS)
  | ea k sz i o v b h hb =>
    simp only [D.kill]
    split
    · exact .any _
    · rename_i hk; exact .ea k sz i o v b ((hμ k hk (by rw [h]; simp)).trans h) hb
  | os k v h hv =>
    simp only [D.kill]
    split
    · exact .any _
    · rename_i hk; exact .os k v ((hμ k hk (by rw [h]; simp)).trans h) hv
  | fn f first caps v1 v2 h1 h2 r1 r2 ih1 ih2 =>
    refine .fn f _ _ v1 v2 (by rw [h1, killL_length]) (by rw [h2, killL_length]) (fun i d hi => ?_) (fun i d hi => ?_)
    · rw [killL_get, Option.map_eq_some_iff] at hi
      obtain ⟨d', hd', rfl⟩ := hi
      exact ih1 i d' hd'
    · rw [killL_get, Option.map_eq_some_iff] at hi
      obtain ⟨d', hd', rfl⟩ := hi
      exact ih2 i d' hd'
  | yl k b F h hb =>
    simp only [D.kill]
    split
    · exact .any _
    · rename_i hk; exact .yl k b F ((hμ k hk (by rw [h]; simp)).trans h) hb
  | ifc t d v h ih => exact .ifc t _ v ih
  | tup ds vs hs h ih =>
    refine .tup _ vs (by rw [hs, killL_length]) (fun i d hi => ?_)
    rw [killL_get, Option.map_eq_some_iff] at hi
    obtain ⟨d', hd', rfl⟩ := hi
    exact ih i d' hd'
  | un => exact .un
  | any v => exact .any v

theorem look_map {α β : Type} (f : α → β) (l : List (Nat × α)) (t : Nat) : look (l.map fun p => (p.1, f p.2)) t = (look l t).map f := by
  induction l with
  | nil => rfl
  | cons p r ih =>
    obtain ⟨k, x⟩ := p
    simp only [List.map_cons, look, ih]
    split <;> rfl

theorem hlook_map (f : Blk → Blk) (l : List (Loc × Blk)) (t : Loc) : hlook (l.map fun p => (p.1, f p.2)) t = (hlook l t).map f := by
  induction l with
  | nil => rfl
  | cons p r ih =>
    obtain ⟨k, x⟩ := p
    simp only [List.map_cons, hlook, ih]
    split <;> rfl

def St.kill (s : St) (l : Loc) : St := { s with tm := s.tm.map fun p => (p.1, p.2.kill l), hp := s.hp.map fun p => (p.1, p.2.kill l) }

/-! ### One part of memory changes -/
def Mem.set (M : Mem) (l : Loc) (p : Place) : Mem := { M with μ := fun k => if k = l then p else M.μ k }

/-- What a part of memory holds outlives a step that leaves its blocks. -/
theorem RB.mono {M M' : Mem} {w w' : World} {p : Place} (hw : ∀ b, M.S b → w'.heap[b]? = w.heap[b]?) (hp : ∀ b, p.has b → w'.heap[b]? = w.heap[b]?) (hS : ∀ b, M.S b → M'.S b)
    (f : D → D) (hf : ∀ d v, R M w d v → R M' w' (f d) v) {b : Blk} (h : RB M w b p) :
    RB M' w' (match b with | .cells ty ds => .cells ty (ds.map f) | b => b) p := by
  cases b with
  | cells ty ds =>
    cases p with
    | blk n =>
      obtain ⟨c, h1, h2, h3⟩ := h
      refine ⟨c, (hp n rfl).trans h1, by simpa using h2, fun i d hi => ?_⟩
      rw [List.getElem?_map, Option.map_eq_some_iff] at hi
      obtain ⟨d', hd', rfl⟩ := hi
      exact ⟨(h3 i d' hd').1, hf _ _ (h3 i d' hd').2⟩
    | dead => exact h.elim
    | own v => exact h.elim
    | res F => exact h.elim
  | arr ty sz rows =>
    cases p with
    | own v =>
      obtain ⟨xs, h1, h2, h3⟩ := h
      refine ⟨xs, ⟨h1.1, ?_⟩, h2, fun i r j x hi hj => ?_⟩
      · rcases h1.2 with h | ⟨g, cap, cur, rfl, hg, hh, r⟩
        · exact .inl h
        · exact .inr ⟨g, cap, cur, rfl, hg, (hp g rfl).trans hh, r⟩
      · obtain ⟨u, a1, a2, a3⟩ := h3 i r j x hi hj
        exact ⟨u, a1, a2, a3.mono hw hS⟩
    | dead => exact h.elim
    | blk n => exact h.elim
    | res F => exact h.elim
  | dfr =>
    cases p with
    | blk n => exact (hp n rfl).trans h
    | dead => exact h.elim
    | own v => exact h.elim
    | res F => exact h.elim
  | res Φ =>
    cases p with
    | res F => exact ⟨h.2 w' (fun b hb => hp b hb), fun w2 h2 => h.2 w2 (fun b hb => (h2 b hb).trans (hp b hb))⟩
    | dead => exact h.elim
    | blk n => exact h.elim
    | own v => exact h.elim

theorem kill_eq_map (l : Loc) (ds : List D) : D.killL l ds = ds.map (D.kill l) := by
  induction ds with
  | nil => rfl
  | cons d r ih => simp [D.killL, ih]

theorem RB.kill {M M' : Mem} {w w' : World} {p : Place} {l : Loc} (hw : ∀ b, M.S b → w'.heap[b]? = w.heap[b]?) (hp : ∀ b, p.has b → w'.heap[b]? = w.heap[b]?) (hS : ∀ b, M.S b → M'.S b)
    (hμ : ∀ k, k ≠ l → M.μ k ≠ .dead → M'.μ k = M.μ k) {b : Blk} (h : RB M w b p) : RB M' w' (b.kill l) p := by
  have := RB.mono (M' := M') hw hp hS (D.kill l) (fun d v hd => hd.kill hw hS hμ) h
  cases b <;> first | exact this | (simp only [Blk.kill, kill_eq_map]; exact this)

theorem Inv.set {M : Mem} {w w' : World} (h : Inv M w) (l : Loc) (p : Place) (hsz : w.heap.size ≤ w'.heap.size)
    (hp : ∀ b, p.has b → ((M.μ l).has b ∨ w.heap.size ≤ b) ∧ b < w'.heap.size) : Inv (M.set l p) w' where
  inj k k' b hk hk' := by
    simp only [Mem.set] at hk hk'
    by_cases e : k = l <;> by_cases e' : k' = l
    · rw [e, e']
    · rw [if_pos e] at hk
      rw [if_neg e'] at hk'
      rcases (hp b hk).1 with h1 | h1
      · exact absurd (h.inj _ _ _ h1 hk') (fun x => e' x.symm)
      · have := h.lt _ _ hk'
        omega
    · rw [if_neg e] at hk
      rw [if_pos e'] at hk'
      rcases (hp b hk').1 with h1 | h1
      · exact absurd (h.inj _ _ _ h1 hk) (fun x => e x.symm)
      · have := h.lt _ _ hk
        omega
    · rw [if_neg e] at hk
      rw [if_neg e'] at hk'
      exact h.inj _ _ _ hk hk'
  lt k b hk := by
    simp only [Mem.set] at hk
    by_cases e : k = l
    · rw [if_pos e] at hk; exact (hp b hk).2
    · rw [if_neg e] at hk; exact Nat.lt_of_lt_of_le (h.lt _ _ hk) hsz
  sep b hb k hk := by
    simp only [Mem.set] at hk
    by_cases e : k = l
    · rw [if_pos e] at hk
      rcases (hp b hk).1 with h1 | h1
      · exact h.sep b hb _ h1
      · have := h.slt b hb; omega
    · rw [if_neg e] at hk; exact h.sep b hb _ hk
  slt b hb := Nat.lt_of_lt_of_le (h.slt b hb) hsz

/-- Of two worlds: only the blocks of one part, and new ones, differ. -/
structure Turns (M : Mem) (l : Loc) (w w' : World) : Prop where
  os : w'.os = w.os
  tape : w'.tape = w.tape
  output : w'.output = w.output
  size : w.heap.size ≤ w'.heap.size
  keep : ∀ b, b < w.heap.size → ¬ (M.μ l).has b → w'.heap[b]? = w.heap[b]?

theorem Turns.ext {M : Mem} {l : Loc} {w w' : World} (h : Turns M l w w') (p : Place) (hp : ∀ b, p.has b → (M.μ l).has b ∨ w.heap.size ≤ b) : Ext M w (M.set l p) w' where
  os := h.os
  tape := h.tape
  output := h.output
  size := h.size
  keep b hb hn := h.keep b hb (hn l)
  s b hb := hb
  new k b hk := by
    simp only [Mem.set] at hk
    by_cases e : k = l
    · rw [if_pos e] at hk
      rcases hp b hk with h1 | h1
      · exact .inl ⟨l, h1⟩
      · exact .inr h1
    · rw [if_neg e] at hk; exact .inl ⟨k, hk⟩
  snew b hb := .inl hb

/-- One part of memory has turned; nothing else that is known leads to it. -/
theorem Rep.turn {M : Mem} {s : St} {w w' : World} {a : Act} (h : Rep M s w a) (l : Loc) (p : Place) (b : Blk) (ht : Turns M l w w')
    (hp : ∀ n, p.has n → ((M.μ l).has n ∨ w.heap.size ≤ n) ∧ n < w'.heap.size) (hb : RB (M.set l p) w' b p) (hdf : ∀ k, k ∈ s.df → k ≠ l) (hnx : ∀ k, l = .l k → k < s.nx) :
    Rep (M.set l p) { s.kill l with hp := hupd (s.kill l).hp l b } w' a := by
  have hμ : ∀ k, k ≠ l → M.μ k ≠ .dead → (M.set l p).μ k = M.μ k := fun k hk _ => by simp [Mem.set, hk]
  have hS : ∀ n, M.S n → (M.set l p).S n := fun _ x => x
  have hw : ∀ n, M.S n → w'.heap[n]? = w.heap[n]? := fun n hn => ht.keep n (h.inv.slt n hn) (h.inv.sep n hn l)
  refine ⟨h.inv.set l p ht.size hp, h.sz, fun t d hd => ?_, fun k c hk => ?_, fun k hk => ?_, ?_⟩
  · simp only [St.kill, look_map, Option.map_eq_some_iff] at hd
    obtain ⟨d', hd', rfl⟩ := hd
    exact (h.tm t d' hd').kill hw hS hμ
  · simp only [hlook_hupd] at hk
    by_cases e : l = k
    · subst e
      rw [if_pos rfl] at hk
      cases hk
      simpa [Mem.set] using hb
    · rw [if_neg e] at hk
      simp only [St.kill, hlook_map, Option.map_eq_some_iff] at hk
      obtain ⟨c', hc', rfl⟩ := hk
      have e' : (M.set l p).μ k = M.μ k := by show (if k = l then p else M.μ k) = M.μ k; rw [if_neg (fun x => e x.symm)]
      rw [e']
      refine RB.kill hw (fun n hn => ?_) hS hμ (h.hp k c' hc')
      exact ht.keep n (h.inv.lt _ _ hn) (fun hl => e (h.inv.inj _ _ _ hl hn))
  · simp only [Mem.set] at hk
    by_cases e : Loc.l k = l
    · exact hnx k e.symm
    · rw [if_neg e] at hk; exact h.nx k hk
  · obtain ⟨bs, h1, h2, h3⟩ := h.df
    refine ⟨bs, h1, h2, fun i k hk => ?_⟩
    obtain ⟨n, a1, a2⟩ := h3 i k hk
    have hne : k ≠ l := hdf k (List.mem_of_getElem? hk)
    exact ⟨n, a1, by simp [Mem.set, hne, a2]⟩

/-- The same where the place stays: nothing is forgotten. -/
theorem Rep.turn_same {M : Mem} {s : St} {w w' : World} {a : Act} (h : Rep M s w a) (l : Loc) (b : Blk) (ht : Turns M l w w') (hb : RB M w' b (M.μ l)) :
    Rep M { s with hp := hupd s.hp l b } w' a := by
  have hw : ∀ n, M.S n → w'.heap[n]? = w.heap[n]? := fun n hn => ht.keep n (h.inv.slt n hn) (h.inv.sep n hn l)
  refine ⟨⟨h.inv.inj, fun k n hk => Nat.lt_of_lt_of_le (h.inv.lt k n hk) ht.size, h.inv.sep, fun n hn => Nat.lt_of_lt_of_le (h.inv.slt n hn) ht.size⟩, h.sz,
    fun t d hd => (h.tm t d hd).mono hw (fun _ x => x) (fun _ _ => rfl), fun k c hk => ?_, h.nx, h.df⟩
  simp only [hlook_hupd] at hk
  by_cases e : l = k
  · subst e
    rw [if_pos rfl] at hk
    cases hk
    exact hb
  · rw [if_neg e] at hk
    have := RB.mono (M' := M) (w' := w') hw (fun n hn => ht.keep n (h.inv.lt _ _ hn) (fun hl => e (h.inv.inj _ _ _ hl hn))) (fun _ x => x) id (fun d v hd => hd.mono hw (fun _ x => x) (fun _ _ => rfl)) (h.hp k c hk)
    cases c <;> simpa using this

/-- A new part of memory. -/
theorem Rep.fresh {M : Mem} {s : St} {w w' : World} {a : Act} (h : Rep M s w a) (k : Nat) (hk : s.nx ≤ k) (p : Place) (b : Blk) (ho : w'.os = w.os) (htp : w'.tape = w.tape) (hou : w'.output = w.output)
    (hsz : w.heap.size ≤ w'.heap.size) (hkeep : ∀ n, n < w.heap.size → w'.heap[n]? = w.heap[n]?) (hp : ∀ n, p.has n → w.heap.size ≤ n ∧ n < w'.heap.size) (hb : RB (M.set (.l k) p) w' b p) :
    Rep (M.set (.l k) p) { s with hp := hupd s.hp (.l k) b, nx := k + 1 } w' a ∧ Ext M w (M.set (.l k) p) w' := by
  have hd : M.μ (.l k) = .dead := by
    cases e : M.μ (.l k) with
    | dead => rfl
    | _ => exact absurd (h.nx k (by rw [e]; simp)) (by omega)
  have hn : ∀ n, ¬ (M.μ (.l k)).has n := fun n hx => by rw [hd] at hx; exact hx
  have ht : Turns M (.l k) w w' := ⟨ho, htp, hou, hsz, fun n hx _ => hkeep n hx⟩
  have hw : ∀ n, M.S n → w'.heap[n]? = w.heap[n]? := fun n hx => hkeep n (h.inv.slt n hx)
  have hS : ∀ n, M.S n → (M.set (.l k) p).S n := fun _ x => x
  have hμ : ∀ l, M.μ l ≠ .dead → (M.set (.l k) p).μ l = M.μ l := by
    intro l hl
    have : l ≠ .l k := fun e => hl (e ▸ hd)
    simp [Mem.set, this]
  refine ⟨⟨h.inv.set (.l k) p hsz (fun n hx => ⟨.inr (hp n hx).1, (hp n hx).2⟩), h.sz, fun t d hx => (h.tm t d hx).mono hw hS hμ, fun l c hl => ?_, fun j hj => ?_, ?_⟩, ht.ext p fun n hx => .inr (hp n hx).1⟩
  · simp only [hlook_hupd] at hl
    by_cases e : Loc.l k = l
    · subst e
      rw [if_pos rfl] at hl
      cases hl
      simpa [Mem.set] using hb
    · rw [if_neg e] at hl
      have e' : (M.set (.l k) p).μ l = M.μ l := by show (if l = .l k then p else M.μ l) = M.μ l; rw [if_neg (fun x => e x.symm)]
      rw [e']
      have := RB.mono (M' := M.set (.l k) p) (w' := w') hw (fun n hx => hkeep n (h.inv.lt _ _ hx)) hS id (fun d v hd => hd.mono hw hS hμ) (h.hp l c hl)
      cases c <;> simpa using this
  · simp only [Mem.set] at hj
    by_cases e : Loc.l j = .l k
    · cases e; exact Nat.lt_succ_self _
    · rw [if_neg e] at hj; exact Nat.lt_succ_of_lt (Nat.lt_of_lt_of_le (h.nx j hj) hk)
  · obtain ⟨bs, h1, h2, h3⟩ := h.df
    refine ⟨bs, h1, h2, fun i l hl => ?_⟩
    obtain ⟨n, a1, a2⟩ := h3 i l hl
    have : l ≠ .l k := fun e => by rw [e, hd] at a2; simp at a2
    exact ⟨n, a1, by simp [Mem.set, this, a2]⟩

/-- Orders drawn from the tape change nothing that is known. -/
theorem Rep.drawn {M : Mem} {s : St} {w : World} {a : Act} (h : Rep M s w a) (k : Nat) : Rep M s { w with drawn := k } a ∧ Ext M w M { w with drawn := k } := by
  have hw : ∀ n : Nat, ({ w with drawn := k } : World).heap[n]? = w.heap[n]? := fun _ => rfl
  refine ⟨⟨⟨h.inv.inj, h.inv.lt, h.inv.sep, h.inv.slt⟩, h.sz, fun t d hd => (h.tm t d hd).mono (fun n _ => hw n) (fun _ x => x) (fun _ _ => rfl), fun l c hl => ?_, h.nx, h.df⟩,
    ⟨rfl, rfl, rfl, Nat.le_refl _, fun _ _ _ => rfl, fun _ x => x, fun l _ x => .inl ⟨l, x⟩, fun _ x => .inl x⟩⟩
  have := RB.mono (M' := M) (w' := { w with drawn := k }) (fun n _ => hw n) (fun n _ => hw n) (fun _ x => x) id (fun d v hd => hd.mono (fun n _ => hw n) (fun _ x => x) (fun _ _ => rfl)) (h.hp l c hl)
  cases c <;> simpa using this

end Go.Aw

/-
  The operations that a region of code is made of, one by one: what they do to an abstract state, and that the machine does so.
-/
namespace Go.Aw

/-! ### An operation -/
/-- The operation comes to a value and a state of which K holds, or ends in a panic and a state of which Kp holds. -/
def OpW (P : Program) (r : Option Nat) (o : Oper) (K Kp : D → St → Prop) (s : St) : Prop :=
  ∀ M w a, Rep M s w a → ∀ (next : Act → World → Prop) (Q : Exit → Act → World → Prop),
    (∀ M' s' w' v d, Rep M' s' w' a → R M' w' d v → Ext M w M' w' → K d s' → next (a.put o.dst v) w') →
    (∀ M' s' w' v d, Rep M' s' w' a → R M' w' d v → Ext M w M' w' → Kp d s' → Q (.panic [{ v := v, recovered := false }]) a w') →
    o.wpIn (WF r) 0 P a w next Q

theorem addr_add (b o n : Nat) : (⟨b, o, none⟩ : Addr).add n = ⟨b, o + n, none⟩ := Addr.add_lit b o n

/-! ### Values as rows of cells -/
def cellsD : D → List D
  | .agg l => l
  | .i (.agg l) => l.map .i
  | d => [d]

def okX : D → Bool
  | .any => false
  | .un => false
  | .tup _ => false
  | _ => true

theorem RI.oneCell {w : World} {S : Nat → Prop} {x : I} {v : Value} (h : RI w S x v) (hx : ∀ l, x ≠ .agg l) : v.oneCell' = true := by
  cases h with
  | lit v h => cases v <;> simp_all [litOk, Value.oneCell']
  | nil => rfl
  | sl => rfl
  | agg l cs => exact absurd rfl (hx l)
  | ifc => rfl

theorem cells_one {v : Value} (h : v.oneCell' = true) : v.cells = #[v] := by cases v <;> simp_all [Value.oneCell', Value.cells]

theorem R.cells {M : Mem} {w : World} {d : D} {v : Value} (h : R M w d v) (hx : okX d = true) :
    v.cells.size = (cellsD d).length ∧ ∀ i e, (cellsD d)[i]? = some e → (v.cells.getD i undef).oneCell' = true ∧ R M w e (v.cells.getD i undef) := by
  have one : v.oneCell' = true → cellsD d = [d] → v.cells.size = (cellsD d).length ∧ ∀ i e, (cellsD d)[i]? = some e → (v.cells.getD i undef).oneCell' = true ∧ R M w e (v.cells.getD i undef) := by
    intro h1 h2
    rw [h2, cells_one h1]
    refine ⟨rfl, fun i e hi => ?_⟩
    cases i with
    | zero => simp at hi; subst hi; exact ⟨h1, h⟩
    | succ i => simp at hi
  cases h with
  | i x v h =>
    cases x with
    | agg l =>
      cases h with
      | agg l cs hs h1 h =>
        refine ⟨by show cs.size = (l.map D.i).length; simpa using hs, fun i e hi => ?_⟩
        simp only [cellsD, List.getElem?_map, Option.map_eq_some_iff] at hi
        obtain ⟨x, hx, rfl⟩ := hi
        exact ⟨h1 i x hx, .i _ _ (h i x hx)⟩
    | lit v => exact one (h.oneCell (by simp)) rfl
    | sl => exact one (h.oneCell (by simp)) rfl
    | ifc => exact one (h.oneCell (by simp)) rfl
  | agg l cs hs h1 h => exact ⟨hs, fun i e hi => ⟨h1 i e hi, h i e hi⟩⟩
  | pt => exact one rfl rfl
  | el => exact one rfl rfl
  | ea => exact one rfl rfl
  | os l v h hv => exact one hv rfl
  | fn => exact one rfl rfl
  | yl => exact one rfl rfl
  | ifc => exact one rfl rfl
  | tup => simp [okX] at hx
  | un => simp [okX] at hx
  | any => simp [okX] at hx

/-! ### Reading memory -/
theorem run_isAgg {P : Program} {t : TypeId} {ti : TI} {i : TypeInfo} {d : TypeDesc} {z : Value} (h : TIs P t ti i d z) (w : World) : (isAgg t).run P w = .ok ti.agg w := by
  unfold isAgg
  rw [Sem.run_bind, run_underlying h.und]
  simp only [Result.andThen_ok, TI.agg, h.k]
  cases d <;> rfl

theorem run_sizeOf {P : Program} {t : TypeId} {ti : TI} {i : TypeInfo} {d : TypeDesc} {z : Value} (h : TIs P t ti i d z) (w : World) : (sizeOf t).run P w = .ok ti.size w := by
  simp [sizeOf, typeInfo, h.info, h.size]

theorem run_loadVar_at {P : Program} {t : TypeId} {ti : TI} {i : TypeInfo} {d : TypeDesc} {z : Value} (h : TIs P t ti i d z) (w : World) (b off : Nat) (f : Nat → Value)
    (hf : ∀ j, j < ti.size → w.cell? ⟨b, off + j, none⟩ = some (f j)) (h1 : ti.agg = false → 0 < ti.size) :
    (loadVar t ⟨b, off, none⟩).run P w = .ok (if ti.agg then .agg ((List.range ti.size).map f).toArray else f 0) w := by
  unfold loadVar
  rw [Sem.run_bind, run_isAgg h]
  simp only [Result.andThen_ok]
  cases ha : ti.agg with
  | true =>
    simp only [if_true, Sem.run_bind, run_sizeOf h, Result.andThen_ok]
    rw [run_loadCells (P := P) w ⟨b, off, none⟩ ti.size f (fun j hj => by rw [addr_add]; exact hf j hj)]
    simp
  | false =>
    have := hf 0 (h1 ha)
    simp only [Nat.add_zero] at this
    simp [run_load, this]

def loadP (s : St) (ti : TI) (d : D) (K : D → Prop) : Prop :=
  match d with
  | .pt l o => (match hlook s.hp l with
    | some (.cells _ ds) => o + ti.size ≤ ds.length ∧ 0 < ti.size ∧ K (if ti.agg then .agg ((ds.drop o).take ti.size) else (ds[o]?).getD .any)
    | _ => False)
  | .el row o => o + ti.size ≤ row.length ∧ 0 < ti.size ∧ K (if ti.agg then .agg (((row.drop o).take ti.size).map .i) else ((row[o]?).map .i).getD .any)
  | .ea l sz i o => (match hlook s.hp l with
    | some (.arr _ sz' rows) => sz' = sz ∧ i < rows.length ∧ o + ti.size ≤ sz ∧ 0 < ti.size ∧
        K (if ti.agg then .agg ((((rows.getD i []).drop o).take ti.size).map .i) else (((rows.getD i [])[o]?).map .i).getD .any)
    | _ => False)
  | _ => False

theorem toArray_getD (l : List Value) (i : Nat) (v : Value) (h : l[i]? = some v) : l.toArray.getD i undef = v := by
  simp [Array.getD_eq_getD_getElem?, h]

theorem load_ok {P : Program} {t : TypeId} {ti : TI} {i : TypeInfo} {d : TypeDesc} {z : Value} (ht : TIs P t ti i d z) {M : Mem} {s : St} {w : World} {a : Act} (hr : Rep M s w a) {x : D} {K : D → Prop} (h : loadP s ti x K)
    {v : Value} (hv : R M w x v) : ∃ y u, (Instr.loadAt t v).run P w = .ok u w ∧ R M w y u ∧ K y := by
  unfold loadP at h
  cases hv with
  | pt l b o hl =>
    simp only at h
    split at h
    · rename_i ty ds hds
      obtain ⟨h1, h0, h2⟩ := h
      have hb := hr.hp l _ hds
      rw [hl] at hb
      obtain ⟨c, hc1, hc2, hc3⟩ := hb
      have hcell : ∀ j, j < ti.size → w.cell? ⟨b, o + j, none⟩ = some (c.getD (o + j) undef) := fun j hj => by
        have : o + j < c.size := by omega
        simp [World.cell?, hc1, Array.getD, this]
      refine ⟨_, (if ti.agg then .agg ((List.range ti.size).map fun j => c.getD (o + j) undef).toArray else c.getD (o + 0) undef), ?_, ?_, h2⟩
      · simp only [Instr.loadAt, Instr.sureAddr, Sem.run_bind, Sem.run_pure, Result.andThen_ok]
        exact run_loadVar_at ht w b o (fun j => c.getD (o + j) undef) hcell (fun _ => h0)
      · cases ha : ti.agg with
        | true =>
          simp only [if_true]
          refine .agg _ _ (by simp; omega) (fun k e hk => ?_) (fun k e hk => ?_)
          all_goals
            have hk' : k < ti.size := by
              have := (List.getElem?_eq_some_iff.1 hk).1
              simp at this
              omega
            have hd : ds[o + k]? = some e := by
              rw [List.getElem?_take_of_lt hk', List.getElem?_drop] at hk
              exact hk
            rw [toArray_getD _ k (c.getD (o + k) undef) (by simp [hk'])]
          · exact (hc3 _ _ hd).1
          · exact (hc3 _ _ hd).2
        | false =>
          simp only [Bool.false_eq_true, if_false, Nat.add_zero]
          have : ds[o]? = some ds[o] := List.getElem?_eq_getElem (by omega)
          rw [this]
          exact (hc3 _ _ this).2
    · exact h.elim
  | el row o b off V hb h1 h2 =>
    simp only at h
    obtain ⟨g1, g0, g2⟩ := h
    have hget : ∀ j, j < ti.size → ∃ x, row[o + j]? = some x := fun j hj => ⟨_, List.getElem?_eq_getElem (show o + j < row.length by omega)⟩
    refine ⟨_, (if ti.agg then .agg ((List.range ti.size).map fun j => V (o + j)).toArray else V (o + 0)), ?_, ?_, g2⟩
    · simp only [Instr.loadAt, Instr.sureAddr, Sem.run_bind, Sem.run_pure, Result.andThen_ok]
      exact run_loadVar_at ht w b (off + o) (fun j => V (o + j)) (fun j hj => by
        obtain ⟨x, hx⟩ := hget j hj
        rw [Nat.add_assoc]
        exact (h1 _ _ hx).1) (fun _ => g0)
    · cases ha : ti.agg with
      | true =>
        simp only [if_true]
        refine .agg _ _ (by simp; omega) (fun k e hk => ?_) (fun k e hk => ?_)
        all_goals
          rw [List.getElem?_map, Option.map_eq_some_iff] at hk
          obtain ⟨e, hk, rfl⟩ := hk
          have hk' : k < ti.size := by
            have := (List.getElem?_eq_some_iff.1 hk).1
            simp at this
            omega
          have hd : row[o + k]? = some e := by
            rw [List.getElem?_take_of_lt hk', List.getElem?_drop] at hk
            exact hk
          rw [toArray_getD _ k (V (o + k)) (by simp [hk'])]
        · exact (h1 _ _ hd).2
        · exact .i _ _ (h2 _ _ hd)
      | false =>
        simp only [Bool.false_eq_true, if_false, Nat.add_zero]
        obtain ⟨x, hx⟩ := hget 0 g0
        simp only [Nat.add_zero] at hx
        rw [hx]
        exact .i _ _ (h2 _ _ hx)
  | ea l sz j o v b hl hb =>
    simp only at h
    split at h
    · rename_i ty sz' rows hds
      obtain ⟨rfl, h1, h2, h0, h3⟩ := h
      have hbb := hr.hp l _ hds
      rw [hl] at hbb
      obtain ⟨xs, ho, hz, hx⟩ := hbb
      have hrow : rows[j]? = some rows[j] := List.getElem?_eq_getElem h1
      have hlen : (rows[j]).length = sz' := hz _ (List.getElem_mem h1)
      have hD : rows.getD j [] = rows[j] := by simp [List.getD, hrow]
      rw [hD] at h3
      have hget : ∀ k, k < ti.size → ∃ x u, (rows[j])[o + k]? = some x ∧ xs[j * sz' + (o + k)]? = some u ∧ u.oneCell' = true ∧ RI w M.S x u := fun k hk => by
        have hx1 : (rows[j])[o + k]? = some (rows[j])[o + k] := List.getElem?_eq_getElem (by omega)
        obtain ⟨u, a1, a2, a3⟩ := hx j _ _ _ hrow hx1
        exact ⟨_, u, hx1, a1, a2, a3⟩
      refine ⟨_, (if ti.agg then .agg ((List.range ti.size).map fun k => xs.getD (j * sz' + (o + k)) undef).toArray else xs.getD (j * sz' + (o + 0)) undef), ?_, ?_, h3⟩
      · simp only [Instr.loadAt, Instr.sureAddr, Sem.run_bind, Sem.run_pure, Result.andThen_ok]
        exact run_loadVar_at ht w b (j * sz' + o) (fun k => xs.getD (j * sz' + (o + k)) undef) (fun k hk => by
          obtain ⟨x, u, _, b2, _, _⟩ := hget k hk
          have := ho.cells hb _ _ b2
          rw [addr_add, Nat.zero_add] at this
          rw [Nat.add_assoc, this]
          simp [List.getD, b2]) (fun _ => h0)
      · cases ha : ti.agg with
        | true =>
          simp only [if_true]
          refine .agg _ _ (by simp; omega) (fun k e hk => ?_) (fun k e hk => ?_)
          all_goals
            rw [List.getElem?_map, Option.map_eq_some_iff] at hk
            obtain ⟨e, hk, rfl⟩ := hk
            have hk' : k < ti.size := by
              have := (List.getElem?_eq_some_iff.1 hk).1
              simp at this
              omega
            have hd : (rows[j])[o + k]? = some e := by
              rw [List.getElem?_take_of_lt hk', List.getElem?_drop] at hk
              exact hk
            obtain ⟨x, u, b1, b2, b3, b4⟩ := hget k hk'
            rw [b1] at hd
            cases hd
            rw [toArray_getD _ k u (by simp [hk', List.getD, b2])]
          · exact b3
          · exact .i _ _ b4
        | false =>
          simp only [Bool.false_eq_true, if_false, Nat.add_zero]
          obtain ⟨x, u, b1, b2, b3, b4⟩ := hget 0 h0
          simp only [Nat.add_zero] at b1 b2
          rw [b1]
          simp only [List.getD, b2]
          exact .i _ _ b4
    · exact h.elim
  | _ => exact h.elim

end Go.Aw

/-
  Operations that write memory, and that make it.
-/
namespace Go.Aw

theorem run_storeVar_at {P : Program} {t : TypeId} {ti : TI} {i : TypeInfo} {d : TypeDesc} {z : Value} (h : TIs P t ti i d z) (w : World) (b off : Nat) (c : Array Value) (ty : TypeId)
    (hb : w.heap[b]? = some (.cells c ty (0, 0))) (v : Value) (hv : v.cells.size = ti.size) (hs : off + ti.size ≤ c.size) (h1 : ∀ u ∈ v.cells.toList, u.oneCell' = true) :
    (storeVar t ⟨b, off, none⟩ v).run P w = .ok () (w.setRow b (c.toList.take off ++ v.cells.toList ++ c.toList.drop (off + ti.size)).toArray) := by
  unfold storeVar
  rw [Sem.run_bind, run_sizeOf h]
  simp only [Result.andThen_ok]
  rw [if_neg (by simpa using hv)]
  have := run_storeCells_at P b off ty v.cells.toList 0 c w hb (by simp; omega) h1
  simp only [Nat.add_zero, Array.length_toList, hv] at this
  exact this

theorem setRow_turns {M : Mem} {l : Loc} {w : World} {b : Nat} (cs : Array Value) (hb : (M.μ l).has b) : Turns M l w (w.setRow b cs) :=
  ⟨rfl, rfl, rfl, by simp, fun n _ hn => setRow_other w b n cs (fun e => hn (e ▸ hb))⟩

/-- The cells of immutable data, if all are. -/
def asIs : List D → Option (List I)
  | [] => some []
  | .i x :: r => (asIs r).map (x :: ·)
  | _ :: _ => none

def rowOf : D → Option (List I)
  | .agg l => asIs l
  | .i (.agg l) => some l
  | .i x => some [x]
  | _ => none

theorem asIs_get : ∀ (l : List D) (r : List I), asIs l = some r → l = r.map .i
  | [], r, h => by simp [asIs] at h; subst h; rfl
  | .i x :: l, r, h => by
    simp only [asIs, Option.map_eq_some_iff] at h
    obtain ⟨r', h', rfl⟩ := h
    simp [asIs_get l r' h']
  | .agg _ :: _, _, h => by simp [asIs] at h
  | .pt _ _ :: _, _, h => by simp [asIs] at h
  | .el _ _ :: _, _, h => by simp [asIs] at h
  | .ea _ _ _ _ :: _, _, h => by simp [asIs] at h
  | .os _ :: _, _, h => by simp [asIs] at h
  | .fn _ _ _ :: _, _, h => by simp [asIs] at h
  | .yl _ :: _, _, h => by simp [asIs] at h
  | .ifc _ _ :: _, _, h => by simp [asIs] at h
  | .tup _ :: _, _, h => by simp [asIs] at h
  | .un :: _, _, h => by simp [asIs] at h
  | .any :: _, _, h => by simp [asIs] at h

theorem rowOf_cells {d : D} {r : List I} (h : rowOf d = some r) : cellsD d = r.map .i ∧ okX d = true := by
  cases d with
  | agg l => exact ⟨asIs_get l r h, rfl⟩
  | i x => cases x <;> simp_all [rowOf, cellsD, okX] <;> (subst h; rfl)
  | _ => simp [rowOf] at h

/-- A value's cells, as a row of immutable data. -/
theorem R.row {M : Mem} {w : World} {d : D} {v : Value} (h : R M w d v) {r : List I} (hr : rowOf d = some r) :
    v.cells.size = r.length ∧ ∀ j x, r[j]? = some x → (v.cells.getD j undef).oneCell' = true ∧ RI w M.S x (v.cells.getD j undef) := by
  obtain ⟨hc, hk⟩ := rowOf_cells hr
  obtain ⟨h1, h2⟩ := h.cells hk
  rw [hc] at h1 h2
  refine ⟨by simpa using h1, fun j x hx => ?_⟩
  obtain ⟨a1, a2⟩ := h2 j (.i x) (by simp [hx])
  refine ⟨a1, ?_⟩
  cases a2
  assumption

def storeP (s : St) (ti : TI) (d x : D) (K : St → Prop) : Prop :=
  match d with
  | .pt l o => (match hlook s.hp l with
    | some (.cells ty ds) => okX x = true ∧ (cellsD x).length = ti.size ∧ o + ti.size ≤ ds.length ∧ K { s with hp := hupd s.hp l (.cells ty (ds.take o ++ cellsD x ++ ds.drop (o + ti.size))) }
    | _ => False)
  | .ea l sz i o => (match hlook s.hp l with
    | some (.arr ty sz' rows) => (match rowOf x with
      | some r => sz' = sz ∧ i < rows.length ∧ r.length = ti.size ∧ o + ti.size ≤ sz ∧
          K { s with hp := hupd s.hp l (.arr ty sz (rows.set i ((rows.getD i []).take o ++ r ++ (rows.getD i []).drop (o + ti.size)))) }
      | none => False)
    | _ => False)
  | _ => False

theorem getD_toArray_append3 (a b c : List Value) (i : Nat) : (a ++ b ++ c).toArray.getD i undef = if i < a.length then a.getD i undef else if i < a.length + b.length then b.getD (i - a.length) undef else c.getD (i - a.length - b.length) undef := by
  simp only [Array.getD_eq_getD_getElem?, List.getElem?_toArray, List.getD_eq_getElem?_getD]
  split
  · rename_i h
    rw [List.append_assoc, List.getElem?_append_left h]
  · rename_i h
    split
    · rename_i h2
      rw [List.append_assoc, List.getElem?_append_right (by omega), List.getElem?_append_left (by omega)]
    · rename_i h2
      rw [List.getElem?_append_right (by simp; omega)]
      simp [Nat.sub_sub]

theorem get_append3 {α : Type} (a b c : List α) (i : Nat) : (a ++ b ++ c)[i]? = if i < a.length then a[i]? else if i < a.length + b.length then b[i - a.length]? else c[i - a.length - b.length]? := by
  split
  · rename_i h
    rw [List.append_assoc, List.getElem?_append_left h]
  · rename_i h
    split
    · rename_i h2
      rw [List.append_assoc, List.getElem?_append_right (by omega), List.getElem?_append_left (by omega)]
    · rename_i h2
      rw [List.getElem?_append_right (by simp; omega)]
      simp [Nat.sub_sub]

theorem splice_get {α : Type} (L news : List α) (off k m : Nat) (hm : news.length = m) (h : off + m ≤ L.length) :
    (L.take off ++ news ++ L.drop (off + m))[k]? = if off ≤ k ∧ k < off + m then news[k - off]? else L[k]? := by
  subst hm
  rw [get_append3, List.length_take, Nat.min_eq_left (by omega)]
  by_cases h1 : k < off
  · rw [if_pos h1, if_neg (by omega), List.getElem?_take_of_lt h1]
  · rw [if_neg h1]
    by_cases h2 : k < off + news.length
    · rw [if_pos h2, if_pos ⟨by omega, h2⟩]
    · rw [if_neg h2, if_neg (by omega), List.getElem?_drop]
      congr 1
      omega

theorem store_ok {P : Program} {t : TypeId} {ti : TI} {i : TypeInfo} {d : TypeDesc} {z : Value} (ht : TIs P t ti i d z) {M : Mem} {s : St} {w : World} {a : Act} (hr : Rep M s w a) {x y : D} {K : St → Prop} (h : storeP s ti x y K)
    {v u : Value} (hv : R M w x v) (hu : R M w y u) : ∃ w' s', (Instr.storeAt t v u).run P w = .ok () w' ∧ Rep M s' w' a ∧ Ext M w M w' ∧ K s' := by
  unfold storeP at h
  cases hv with
  | pt l b o hl =>
    simp only at h
    split at h
    · rename_i ty ds hds
      obtain ⟨hx, hlen, hle, hK⟩ := h
      have hb := hr.hp l _ hds
      rw [hl] at hb
      obtain ⟨c, hc1, hc2, hc3⟩ := hb
      obtain ⟨e1, e2⟩ := hu.cells hx
      have hone : ∀ q ∈ u.cells.toList, q.oneCell' = true := by
        intro q hq
        obtain ⟨k, hk⟩ := List.getElem?_of_mem hq
        have hk2 : k < (cellsD y).length := by rw [← e1, ← Array.length_toList]; exact (List.getElem?_eq_some_iff.1 hk).1
        have := (e2 k _ (List.getElem?_eq_getElem hk2)).1
        rw [Array.getElem?_toList] at hk
        rwa [show u.cells.getD k undef = q by simp [Array.getD_eq_getD_getElem?, hk]] at this
      have hrun := run_storeVar_at ht w b o c ty hc1 u (by omega) (by omega) hone
      have hturn : Turns M l w (w.setRow b (c.toList.take o ++ u.cells.toList ++ c.toList.drop (o + ti.size)).toArray) := setRow_turns _ (by rw [hl]; rfl)
      have hS : ∀ n, M.S n → (w.setRow b (c.toList.take o ++ u.cells.toList ++ c.toList.drop (o + ti.size)).toArray).heap[n]? = w.heap[n]? := fun n hn => hturn.keep n (hr.inv.slt n hn) (hr.inv.sep n hn l)
      refine ⟨_, _, ?_, hr.turn_same l (.cells ty (ds.take o ++ cellsD y ++ ds.drop (o + ti.size))) hturn ?_, ?_, hK⟩
      · simp only [Instr.storeAt, Instr.sureAddr, Sem.run_bind, Sem.run_pure, Result.andThen_ok]
        exact hrun
      · rw [hl]
        refine ⟨_, setRow_heap w b c _ ty (0, 0) hc1, ?_, fun k e hk => ?_⟩
        · simp; omega
        · rw [getD_toArray_append3]
          rw [get_append3] at hk
          simp only [List.length_take, Array.length_toList, hc2, e1] at hk ⊢
          have hmin : min o ds.length = o := by omega
          rw [hmin] at hk ⊢
          split
          · rename_i h1
            rw [if_pos h1, List.getElem?_take_of_lt h1] at hk
            have : (c.toList.take o).getD k undef = c.getD k undef := by simp [List.getD_eq_getElem?_getD, List.getElem?_take_of_lt h1, Array.getD_eq_getD_getElem?]
            rw [this]
            exact ⟨(hc3 k e hk).1, (hc3 k e hk).2.mono hS (fun _ q => q) (fun _ _ => rfl)⟩
          · rename_i h1
            rw [if_neg h1] at hk
            split
            · rename_i h2
              rw [if_pos h2] at hk
              have : u.cells.toList.getD (k - o) undef = u.cells.getD (k - o) undef := by simp [List.getD_eq_getElem?_getD, Array.getD_eq_getD_getElem?]
              rw [this]
              exact ⟨(e2 _ e hk).1, (e2 _ e hk).2.mono hS (fun _ q => q) (fun _ _ => rfl)⟩
            · rename_i h2
              rw [if_neg h2, List.getElem?_drop] at hk
              have : (c.toList.drop (o + ti.size)).getD (k - o - (cellsD y).length) undef = c.getD (o + ti.size + (k - o - (cellsD y).length)) undef := by simp [List.getD_eq_getElem?_getD, Array.getD_eq_getD_getElem?]
              rw [this]
              exact ⟨(hc3 _ e hk).1, (hc3 _ e hk).2.mono hS (fun _ q => q) (fun _ _ => rfl)⟩
      · exact ⟨hturn.os, hturn.tape, hturn.output, hturn.size, fun n hn hx => hturn.keep n hn (hx l), fun _ q => q, fun k _ q => .inl ⟨k, q⟩, fun _ q => .inl q⟩
    · exact h.elim
  | ea l sz j o v b hl hb =>
    simp only at h
    split at h
    · rename_i ty sz' rows hds
      split at h
      · rename_i r hrow
        obtain ⟨rfl, hj, hlen, hle, hK⟩ := h
        have hbb := hr.hp l _ hds
        rw [hl] at hbb
        obtain ⟨xs, ho, hz, hx⟩ := hbb
        obtain ⟨e1, e2⟩ := hu.row hrow
        have hone : ∀ q ∈ u.cells.toList, q.oneCell' = true := by
          intro q hq
          obtain ⟨k, hk⟩ := List.getElem?_of_mem hq
          have hk2 : k < r.length := by rw [← e1, ← Array.length_toList]; exact (List.getElem?_eq_some_iff.1 hk).1
          have := (e2 k _ (List.getElem?_eq_getElem hk2)).1
          rw [Array.getElem?_toList] at hk
          rwa [show u.cells.getD k undef = q by simp [Array.getD_eq_getD_getElem?, hk]] at this
        obtain ⟨hol, ho2⟩ := ho
        rcases ho2 with ⟨rfl, _⟩ | ⟨g, cap, cur, rfl, hg0, hg, hnc, hcm, hcs, htk⟩
        · simp [Value.ownBlock] at hb
        · have : g = b := by simpa [Value.ownBlock] using hb
          subst this
          have hjb : (j + 1) * sz' ≤ rows.length * sz' := Nat.mul_le_mul_right _ hj
          have hrb : rows.length * sz' ≤ cap * sz' := Nat.mul_le_mul_right _ hnc
          rw [Nat.add_mul, Nat.one_mul] at hjb
          have hrun := run_storeVar_at ht w g (j * sz' + o) cur ty hg u (by omega) (by omega) hone
          have hturn : Turns M l w (w.setRow g (cur.toList.take (j * sz' + o) ++ u.cells.toList ++ cur.toList.drop (j * sz' + o + ti.size)).toArray) := setRow_turns _ (by rw [hl]; rfl)
          have hS : ∀ n, M.S n → (w.setRow g (cur.toList.take (j * sz' + o) ++ u.cells.toList ++ cur.toList.drop (j * sz' + o + ti.size)).toArray).heap[n]? = w.heap[n]? := fun n hn => hturn.keep n (hr.inv.slt n hn) (hr.inv.sep n hn l)
          refine ⟨_, _, ?_, hr.turn_same l _ hturn ?_, ?_, hK⟩
          · simp only [Instr.storeAt, Instr.sureAddr, Sem.run_bind, Sem.run_pure, Result.andThen_ok]
            exact hrun
          · rw [hl]
            have hrl : (rows[j]).length = sz' := hz _ (List.getElem_mem hj)
            have hD : rows.getD j [] = rows[j] := by simp [List.getD, List.getElem?_eq_getElem hj]
            have hxl : xs.length = rows.length * sz' := hol
            have hcl : cur.toList.length = cap * sz' := by simpa using hcs
            have hul : u.cells.toList.length = ti.size := by simp; omega
            refine ⟨xs.take (j * sz' + o) ++ u.cells.toList ++ xs.drop (j * sz' + o + ti.size), ⟨?_, .inr ⟨g, cap, _, by simp, hg0, setRow_heap w g cur _ ty (0, 0) hg, by simpa using hnc, hcm, ?_, ?_⟩⟩, ?_, ?_⟩
            · simp only [List.length_append, List.length_take, List.length_drop, hul, hxl, List.length_set]; omega
            · simp only [List.size_toArray, List.length_append, List.length_take, List.length_drop, hul, hcl]; omega
            · simp only [List.length_set]
              rw [← htk] at hxl ⊢
              apply List.ext_getElem?
              intro k
              by_cases hk : k < rows.length * sz'
              · rw [List.getElem?_take_of_lt hk, splice_get _ _ _ _ _ hul (by omega), splice_get _ _ _ _ _ hul (by omega), List.getElem?_take_of_lt hk]
              · rw [List.getElem?_eq_none (by simp only [List.length_take]; omega), List.getElem?_eq_none (by simp only [List.length_append, List.length_take, List.length_drop, hul] at hxl ⊢; omega)]
            · intro q hq
              rcases List.mem_or_eq_of_mem_set hq with hq | rfl
              · exact hz q hq
              · rw [hD]; simp only [List.length_append, List.length_take, List.length_drop, hrl, hlen]; omega
            · intro k q m x hq hm
              rw [splice_get _ _ _ _ _ hul (by omega)]
              have hkl : k < rows.length := by have := (List.getElem?_eq_some_iff.1 hq).1; simpa using this
              by_cases hkj : j = k
              · subst hkj
                rw [List.getElem?_set_self hj, hD] at hq
                cases hq
                rw [splice_get _ _ _ _ _ hlen (by omega)] at hm
                by_cases hin : o ≤ m ∧ m < o + ti.size
                · rw [if_pos hin] at hm
                  rw [if_pos (by omega)]
                  obtain ⟨a1, a2⟩ := e2 _ x hm
                  have hlt : m - o < u.cells.size := by omega
                  refine ⟨u.cells.getD (m - o) undef, ?_, a1, a2.mono hS (fun _ q => q)⟩
                  rw [show j * sz' + m - (j * sz' + o) = m - o by omega]
                  simp [Array.getD_eq_getD_getElem?, hlt]
                · rw [if_neg hin] at hm
                  rw [if_neg (by omega)]
                  obtain ⟨q, a1, a2, a3⟩ := hx _ _ _ _ (List.getElem?_eq_getElem hj) hm
                  exact ⟨q, a1, a2, a3.mono hS (fun _ q => q)⟩
              · rw [List.getElem?_set_ne hkj] at hq
                have hml : m < sz' := by rw [← hz q (List.mem_of_getElem? hq)]; exact (List.getElem?_eq_some_iff.1 hm).1
                have hne : ¬ (j * sz' + o ≤ k * sz' + m ∧ k * sz' + m < j * sz' + o + ti.size) := by
                  rcases Nat.lt_or_gt_of_ne hkj with h1 | h1
                  · have : (j + 1) * sz' ≤ k * sz' := Nat.mul_le_mul_right _ h1
                    rw [Nat.add_mul, Nat.one_mul] at this
                    omega
                  · have : (k + 1) * sz' ≤ j * sz' := Nat.mul_le_mul_right _ h1
                    rw [Nat.add_mul, Nat.one_mul] at this
                    omega
                rw [if_neg hne]
                obtain ⟨q2, a1, a2, a3⟩ := hx _ _ _ _ hq hm
                exact ⟨q2, a1, a2, a3.mono hS (fun _ q => q)⟩
          · exact ⟨hturn.os, hturn.tape, hturn.output, hturn.size, fun n hn hx => hturn.keep n hn (hx l), fun _ q => q, fun k _ q => .inl ⟨k, q⟩, fun _ q => .inl q⟩
      · exact h.elim
    · exact h.elim
  | _ => exact h.elim

end Go.Aw

/-
  Operations that make memory, or build a value of parts.
-/
namespace Go.Aw

theorem halloc_old (w : World) (o : Obj) (b : Nat) (h : b < w.heap.size) : (w.alloc o).heap[b]? = w.heap[b]? := by
  show (w.heap.push o)[b]? = _
  rw [Array.getElem?_push, if_neg (by omega)]
theorem halloc_new (w : World) (o : Obj) : (w.alloc o).heap[w.heap.size]? = some o := by
  show (w.heap.push o)[w.heap.size]? = _
  simp

theorem getD_list (c : Array Value) (i : Nat) : c.toList.getD i undef = c.getD i undef := by simp [List.getD_eq_getElem?_getD, Array.getD_eq_getD_getElem?]

/-! ### A new variable -/
theorem new_cells {P : Program} {M : Mem} {s : St} {w : World} {a : Act} (hr : Rep M s w a) (k : Nat) (hk : s.nx ≤ k) (t : TypeId) (c : Array Value) (ds : List D) (h1 : c.size = ds.length)
    (h2 : ∀ i e, ds[i]? = some e → (c.getD i undef).oneCell' = true ∧ R M w e (c.getD i undef)) :
    ∃ M', (newRow t c).run P w = .ok ⟨w.heap.size, 0, none⟩ (w.alloc (.cells c t)) ∧ Rep M' { s with hp := hupd s.hp (.l k) (.cells t ds), nx := k + 1 } (w.alloc (.cells c t)) a ∧
      R M' (w.alloc (.cells c t)) (.pt (.l k) 0) (.pointer (some ⟨w.heap.size, 0, none⟩)) ∧ Ext M w M' (w.alloc (.cells c t)) := by
  have hS : ∀ b, M.S b → (w.alloc (.cells c t)).heap[b]? = w.heap[b]? := fun b hb => halloc_old w _ b (hr.inv.slt b hb)
  have hd : M.μ (.l k) = .dead := by
    cases e : M.μ (.l k) with
    | dead => rfl
    | _ => exact absurd (hr.nx k (by rw [e]; simp)) (by omega)
  have hSS : ∀ b, M.S b → (M.set (.l k) (.blk w.heap.size)).S b := fun _ x => x
  have hm : ∀ l, M.μ l ≠ .dead → (M.set (.l k) (.blk w.heap.size)).μ l = M.μ l := fun l hl => by
    have : l ≠ .l k := fun e => hl (e ▸ hd)
    simp [Mem.set, this]
  obtain ⟨g1, g2⟩ := hr.fresh (w' := w.alloc (.cells c t)) k hk (.blk w.heap.size) (.cells t ds) rfl rfl rfl (by simp) (fun n hn => halloc_old w _ n hn)
    (fun n hn => by simp only [Place.has] at hn; subst hn; simp) ⟨c, halloc_new w _, h1, fun i e he => ⟨(h2 i e he).1, (h2 i e he).2.mono hS hSS hm⟩⟩
  exact ⟨_, rfl, g1, .pt _ _ _ (by simp [Mem.set]), g2⟩

theorem box_ok {P : Program} {M : Mem} {s : St} {w : World} {a : Act} (hr : Rep M s w a) (k : Nat) (hk : s.nx ≤ k) (t : TypeId) {x : D} {v : Value} (hv : R M w x v) (hx : okX x = true) :
    ∃ u w' M', (Instr.box t v).run P w = .ok u w' ∧ Rep M' { s with hp := hupd s.hp (.l k) (.cells t (cellsD x)), nx := k + 1 } w' a ∧ R M' w' (.pt (.l k) 0) u ∧ Ext M w M' w' := by
  obtain ⟨h1, h2⟩ := hv.cells hx
  obtain ⟨M', g1, g2, g3, g4⟩ := new_cells (P := P) hr k hk t v.cells (cellsD x) h1 h2
  exact ⟨_, _, M', by simp only [Instr.box, newVar, Sem.run_bind, g1, Result.andThen_ok, Sem.run_pure], g2, g3, g4⟩

def zD (z : Z) : D := .i (.lit z.val)
theorem zval_ok (z : Z) : litOk z.val := by cases z <;> simp [Z.val, litOk, ByteArray.size]
theorem zval_one (z : Z) : z.val.oneCell' = true := by cases z <;> rfl

theorem zeros_get {P : Program} {t : TypeId} {ti : TI} {i : TypeInfo} {d : TypeDesc} {z : Value} (ht : TIs P t ti i d z) (M : Mem) (w : World) :
    z.cells.size = (ti.z.map zD).length ∧ ∀ i e, (ti.z.map zD)[i]? = some e → (z.cells.getD i undef).oneCell' = true ∧ R M w e (z.cells.getD i undef) := by
  have hc := ht.cells
  refine ⟨by rw [← Array.length_toList, hc]; simp, fun i e he => ?_⟩
  rw [List.getElem?_map, Option.map_eq_some_iff] at he
  obtain ⟨y, hy, rfl⟩ := he
  have : z.cells.getD i undef = y.val := by rw [← getD_list, hc]; simp [List.getD_eq_getElem?_getD, hy]
  rw [this]
  exact ⟨zval_one y, .i _ _ (.lit _ (zval_ok y))⟩

theorem alloc_ok {P : Program} {t : TypeId} {ti : TI} {i : TypeInfo} {d : TypeDesc} {z : Value} (ht : TIs P t ti i d z) {M : Mem} {s : St} {w : World} {a : Act} (hr : Rep M s w a) (k : Nat) (hk : s.nx ≤ k) :
    ∃ u w' M', (Instr.alloc t true (.tuple #[])).run P w = .ok u w' ∧ Rep M' { s with hp := hupd s.hp (.l k) (.cells t (ti.z.map zD)), nx := k + 1 } w' a ∧ R M' w' (.pt (.l k) 0) u ∧ Ext M w M' w' := by
  obtain ⟨h1, h2⟩ := zeros_get ht M w
  obtain ⟨M', g1, g2, g3, g4⟩ := new_cells (P := P) hr k hk t z.cells (ti.z.map zD) h1 h2
  refine ⟨_, _, M', ?_, g2, g3, g4⟩
  simp [Instr.alloc, zeroValue, typeInfo, ht.info, ht.zero, newVar, g1]

/-! ### A value of parts -/
def fillD (place : Nat → Option (Nat × Nat)) : List D → List (Nat × D) → Option (List D)
  | cells, [] => some cells
  | cells, (i, d) :: rest =>
    match place i with
    | none => none
    | some (off, size) => if okX d = true ∧ (cellsD d).length = size ∧ off + size ≤ cells.length then fillD place (cells.take off ++ cellsD d ++ cells.drop (off + size)) rest else none

theorem fill_fold (off : Nat) : ∀ (l : List Value) (i : Nat) (cs : Array Value), off + i + l.length ≤ cs.size →
    ((l.zipIdx i).foldl (fun (cs : Array Value) (p : Value × Nat) => cs.setIfInBounds (off + p.2) p.1) cs).toList = cs.toList.take (off + i) ++ l ++ cs.toList.drop (off + i + l.length)
  | [], i, cs, h => by simp
  | v :: l, i, cs, h => by
    simp only [List.length_cons] at h
    have ih := fill_fold off l (i + 1) (cs.setIfInBounds (off + i) v) (by simpa using (by omega : off + (i + 1) + l.length ≤ cs.size))
    simp only [List.zipIdx_cons, List.foldl_cons, ih, Array.toList_setIfInBounds, List.length_cons]
    apply List.ext_getElem?
    intro k
    rw [get_append3, get_append3]
    simp only [List.length_take, List.length_set, Array.length_toList, List.length_cons]
    rw [Nat.min_eq_left (by omega), Nat.min_eq_left (by omega)]
    by_cases h1 : k < off + i
    · rw [if_pos (by omega), if_pos h1, List.getElem?_take_of_lt (by omega), List.getElem?_take_of_lt h1, List.getElem?_set_ne (by omega)]
    · by_cases h2 : k = off + i
      · subst h2
        rw [if_pos (by omega), if_neg (by omega), if_pos (by omega), List.getElem?_take_of_lt (by omega), List.getElem?_set_self (by simp; omega)]
        simp
      · rw [if_neg (show ¬ k < off + (i + 1) by omega), if_neg (show ¬ k < off + i by omega)]
        by_cases h3 : k < off + i + (l.length + 1)
        · rw [if_pos (show k < off + (i + 1) + l.length by omega), if_pos (show k < off + i + (l.length + 1) by omega)]
          obtain ⟨m, rfl⟩ : ∃ m, k = off + i + (m + 1) := ⟨k - (off + i) - 1, by omega⟩
          rw [show off + i + (m + 1) - (off + (i + 1)) = m by omega, show off + i + (m + 1) - (off + i) = m + 1 by omega, List.getElem?_cons_succ]
        · rw [if_neg (show ¬ k < off + (i + 1) + l.length by omega), if_neg (show ¬ k < off + i + (l.length + 1) by omega), List.getElem?_drop, List.getElem?_drop, List.getElem?_set_ne (by omega)]
          congr 1
          omega

theorem fill_ok {M : Mem} {w : World} (place : Nat → Option (Nat × Nat)) : ∀ (parts : List (Nat × D)) (vs : List (Nat × Value)) (ds : List D) (cs : Array Value) (out : List D),
    fillD place ds parts = some out → parts.length = vs.length → (∀ (j : Nat) p q, parts[j]? = some p → vs[j]? = some q → q.1 = p.1 ∧ R M w p.2 q.2) →
    cs.size = ds.length → (∀ i e, ds[i]? = some e → (cs.getD i undef).oneCell' = true ∧ R M w e (cs.getD i undef)) →
    ∃ res, Instr.fill place cs vs = some res ∧ res.size = out.length ∧ ∀ i e, out[i]? = some e → (res.getD i undef).oneCell' = true ∧ R M w e (res.getD i undef)
  | [], [], ds, cs, out, h, _, _, h1, h2 => by
    simp only [fillD, Option.some.injEq] at h
    subst h
    exact ⟨cs, rfl, h1, h2⟩
  | [], _ :: _, _, _, _, _, h, _, _, _ => by simp at h
  | _ :: _, [], _, _, _, _, h, _, _, _ => by simp at h
  | (i, d) :: parts, (i', v) :: vs, ds, cs, out, h, hl, hp, h1, h2 => by
    obtain ⟨e1, hv⟩ := hp 0 _ _ rfl rfl
    simp only at e1 hv
    subst e1
    simp only [fillD] at h
    split at h
    · cases h
    · rename_i off size hpl
      split at h
      · rename_i hc
        obtain ⟨hx, hlen, hle⟩ := hc
        obtain ⟨g1, g2⟩ := hv.cells hx
        have hvs : v.cells.size = size := by omega
        have hsz : ((v.cells.toList.zipIdx 0).foldl (fun (cs : Array Value) (p : Value × Nat) => cs.setIfInBounds (off + p.2) p.1) cs).toList = cs.toList.take off ++ v.cells.toList ++ cs.toList.drop (off + size) := by
          have := fill_fold off v.cells.toList 0 cs (by simp; omega)
          simpa [hvs] using this
        have hfold : v.cells.zipIdx.foldl (fun (cs : Array Value) (p : Value × Nat) => cs.setIfInBounds (off + p.2) p.1) cs = (cs.toList.take off ++ v.cells.toList ++ cs.toList.drop (off + size)).toArray := by
          apply Array.ext'
          rw [← hsz, ← Array.foldl_toList, Array.toList_zipIdx]
        obtain ⟨res, r1, r2⟩ := fill_ok place parts vs _ (cs.toList.take off ++ v.cells.toList ++ cs.toList.drop (off + size)).toArray out h (by simpa using hl) (fun j p q hj hq => hp (j + 1) p q (by simpa using hj) (by simpa using hq))
          (by simp only [List.size_toArray, List.length_append, List.length_take, List.length_drop, Array.length_toList]; omega) (fun k e hk => by
            rw [splice_get _ _ _ _ _ hlen hle] at hk
            have : (cs.toList.take off ++ v.cells.toList ++ cs.toList.drop (off + size)).toArray.getD k undef = if off ≤ k ∧ k < off + size then v.cells.getD (k - off) undef else cs.getD k undef := by
              rw [Array.getD_eq_getD_getElem?, List.getElem?_toArray, splice_get _ _ _ _ _ (by simpa using hvs) (by simp; omega)]
              split <;> simp [Array.getD_eq_getD_getElem?]
            rw [this]
            split
            · rename_i hin; rw [if_pos hin] at hk; exact g2 _ e hk
            · rename_i hin; rw [if_neg hin] at hk; exact h2 _ e hk)
        refine ⟨res, ?_, r2⟩
        simp only [Instr.fill, hpl]
        rw [if_neg (by simp; omega)]
        rw [hfold]
        exact r1
      · cases h

/-- Of a struct's fields, or an array's elements: where each lies, and its size. -/
def plOf (P : Program) (t : TypeId) : Option (List (Nat × Nat)) :=
  match P.underlying t with
  | some (.struct fields) => fields.toList.mapM fun f => (P.info? f.type).map fun i => (f.offset, i.size)
  | _ => none

def placeOf (P : Program) (t : TypeId) (ti : TI) (i : Nat) : Option (Nat × Nat) :=
  match ti.k with
  | .arr _ e => (match tiOf P e with | some te => some (i * te.size, te.size) | none => none)
  | .st _ => (match plOf P t with | some l => l[i]? | none => none)
  | _ => none

def buildP (P : Program) (t : TypeId) (parts : List (Nat × D)) (K : D → Prop) : Prop :=
  match tiOf P t with
  | some ti => (match fillD (placeOf P t ti) (ti.z.map zD) parts with
    | some l => K (.agg l)
    | none => False)
  | none => False

theorem place_none {P : Program} {t : TypeId} {ti : TI} (h : ∀ i, placeOf P t ti i = none) : ∀ (ds : List D) (parts : List (Nat × D)) (out : List D), fillD (placeOf P t ti) ds parts = some out → parts = []
  | _, [], _, _ => rfl
  | _, (i, d) :: _, _, hf => by simp [fillD, h i] at hf

theorem build_ok {P : Program} {t : TypeId} {M : Mem} {w : World} {parts : List (Nat × D)} {vs : Array (Nat × Value)} {K : D → Prop} (h : buildP P t parts K) (hne : parts ≠ []) (hl : parts.length = vs.size)
    (hp : ∀ (j : Nat) p q, parts[j]? = some p → vs[j]? = some q → q.1 = p.1 ∧ R M w p.2 q.2) : ∃ y u, (Instr.build t vs).run P w = .ok u w ∧ R M w y u ∧ K y := by
  unfold buildP at h
  split at h
  · rename_i ti hti
    split at h
    · rename_i l hf
      obtain ⟨i, d, z, ht⟩ := tiOf_spec hti
      obtain ⟨h1, h2⟩ := zeros_get ht M w
      obtain ⟨res, r1, r2, r3⟩ := fill_ok (placeOf P t ti) parts vs.toList _ z.cells l hf (by simpa using hl) (fun j p q hj hq => hp j p q hj (by simpa using hq)) h1 h2
      refine ⟨_, _, run_build w t vs res ?_, .agg _ _ r2 (fun k e hk => (r3 k e hk).1) (fun k e hk => (r3 k e hk).2), h⟩
      have hk := ht.k
      unfold Program.built
      simp only [ht.info, ht.und]
      have hpl : ∀ j, placeOf P t ti j = (match ti.k with | .arr _ e => (match tiOf P e with | some te => some (j * te.size, te.size) | none => none) | .st _ => (match plOf P t with | some l => l[j]? | none => none) | _ => none) := fun _ => rfl
      cases hd : d
      case array n e =>
        have hka : ti.k = .arr n e := by rw [hk, hd]; rfl
        simp only [hka] at hpl
        cases hte : tiOf P e with
        | none => exact absurd (place_none (fun j => by rw [hpl, hte]) _ _ _ hf) hne
        | some te =>
          obtain ⟨ie, de, ze, hte'⟩ := tiOf_spec hte
          simp only [ht.zero, hte'.info]
          rw [show (fun i => some (i * ie.size, ie.size)) = placeOf P t ti by funext j; rw [hpl, hte, hte'.size]]
          exact r1
      case struct fs =>
        have hks : ti.k = .st (fs.toList.map fun f => (f.offset, f.type)) := by rw [hk, hd]; rfl
        simp only [hks] at hpl
        cases hpo : plOf P t with
        | none => exact absurd (place_none (fun j => by rw [hpl, hpo]) _ _ _ hf) hne
        | some pls =>
          have hpo' : fs.toList.mapM (fun f => (P.info? f.type).map fun i => (f.offset, i.size)) = some pls := by
            simpa [plOf, ht.und, hd] using hpo
          simp only [ht.zero, hpo']
          rw [show (fun x => pls.toArray[x]?) = placeOf P t ti by funext j; rw [hpl, hpo]; simp]
          exact r1
      all_goals
        have hkn : ∀ j, placeOf P t ti j = none := fun j => by rw [hpl, hk, hd]; rfl
        exact absurd (place_none hkn _ _ _ hf) hne
    · exact h.elim
  · exact h.elim

end Go.Aw

/-
  Slices: literals, append, make, elements, lengths.
-/
namespace Go.Aw

/-! ### Where rows come from -/
def rowsOf (s : St) : D → Option (List (List I))
  | .i (.sl _ _ rows) => some rows
  | .i (.lit (.slice none 0 0)) => some []
  | .os l => (match hlook s.hp l with
    | some (.arr _ _ rows) => some rows
    | _ => none)
  | _ => none

def szOk (s : St) (sz : Nat) : D → Prop
  | .i (.sl _ sz' _) => sz' = sz
  | .i (.lit _) => True
  | .os l => (match hlook s.hp l with
    | some (.arr _ sz' _) => sz' = sz
    | _ => False)
  | _ => False

/-- The rows of a slice, as values in a row. -/
structure Src (M : Mem) (w : World) (sz : Nat) (ys : List (List I)) (v : Value) (news : List Value) : Prop where
  len : news.length = ys.length * sz
  rows : ∀ r, r ∈ ys → r.length = sz
  at_ : ∀ i r j x, ys[i]? = some r → r[j]? = some x → ∃ u, news[i * sz + j]? = some u ∧ u.oneCell' = true ∧ RI w M.S x u
  one : ∀ u, u ∈ news → u.oneCell' = true
  val : (v = .slice none 0 0 ∧ ys = []) ∨ ∃ b off c, v = .slice (some ⟨b, off, none⟩) ys.length c ∧ ys.length ≤ c ∧ c ≤ maxLen ∧ (∀ j u, news[j]? = some u → w.cell? ⟨b, off + j, none⟩ = some u) ∧ (M.S b ∨ ∃ l, (M.μ l).has b)

theorem divmod (k sz : Nat) (_hk : 0 < sz) : k / sz * sz + k % sz = k := by
  have := Nat.div_add_mod k sz
  rw [Nat.mul_comm] at this
  exact this

theorem src_of_RI {M : Mem} {w : World} {f : Bool} {sz : Nat} {rows : List (List I)} {v : Value} (h : RI w M.S (.sl f sz rows) v) : ∃ news, Src M w sz rows v news := by
  cases h with
  | nil => exact ⟨[], ⟨by simp, by simp, by simp, by simp, .inl ⟨rfl, rfl⟩⟩⟩
  | sl f sz rows b off cap V hb hn hc hf hz h1 h2 =>
    have key : ∀ k, k < rows.length * sz → ∃ r x, rows[k / sz]? = some r ∧ r[k % sz]? = some x := by
      intro k hk
      have hsz : 0 < sz := by rcases Nat.eq_zero_or_pos sz with e | e
                              · rw [e] at hk; simp at hk
                              · exact e
      have hi : k / sz < rows.length := (Nat.div_lt_iff_lt_mul hsz).2 hk
      have hr : rows[k / sz]? = some rows[k / sz] := List.getElem?_eq_getElem hi
      have hl := hz _ (List.getElem_mem hi)
      exact ⟨_, _, hr, List.getElem?_eq_getElem (by rw [hl]; exact Nat.mod_lt _ hsz)⟩
    have idx : ∀ i r j x, rows[i]? = some r → r[j]? = some x → (i * sz + j) / sz = i ∧ (i * sz + j) % sz = j ∧ i * sz + j < rows.length * sz := by
      intro i r j x hi hj
      have hl := hz r (List.mem_of_getElem? hi)
      have hjl : j < sz := by rw [← hl]; exact (List.getElem?_eq_some_iff.1 hj).1
      have hil : i < rows.length := (List.getElem?_eq_some_iff.1 hi).1
      have h3 : (i + 1) * sz ≤ rows.length * sz := Nat.mul_le_mul_right _ hil
      rw [Nat.add_mul, Nat.one_mul] at h3
      exact ⟨by rw [Nat.mul_comm, Nat.mul_add_div (by omega), Nat.div_eq_of_lt hjl, Nat.add_zero], by rw [Nat.mul_comm, Nat.mul_add_mod, Nat.mod_eq_of_lt hjl], by omega⟩
    refine ⟨(List.range (rows.length * sz)).map fun k => V (k / sz) (k % sz), ⟨by simp, hz, fun i r j x hi hj => ?_, fun u hu => ?_, .inr ⟨b, off, cap, rfl, hn, hc, fun k u hk => ?_, .inl hb⟩⟩⟩
    · obtain ⟨a1, a2, a3⟩ := idx i r j x hi hj
      refine ⟨V i j, by simp [a3, a1, a2], (h1 i r j x hi hj).2, h2 i r j x hi hj⟩
    · simp only [List.mem_map, List.mem_range] at hu
      obtain ⟨k, hk, rfl⟩ := hu
      obtain ⟨r, x, hr, hx⟩ := key k hk
      exact (h1 _ r _ x hr hx).2
    · simp only [List.getElem?_map, Option.map_eq_some_iff] at hk
      obtain ⟨k', hk', rfl⟩ := hk
      have hlt : k < rows.length * sz := by have := (List.getElem?_eq_some_iff.1 hk').1; simpa using this
      have : k' = k := by rw [List.getElem?_range hlt] at hk'; exact (Option.some.inj hk').symm
      subst this
      obtain ⟨r, x, hr, hx⟩ := key k' hlt
      have hsz : 0 < sz := by rcases Nat.eq_zero_or_pos sz with e | e
                              · rw [e] at hlt; simp at hlt
                              · exact e
      have := (h1 _ r _ x hr hx).1
      rwa [Nat.add_assoc, divmod k' sz hsz] at this

theorem src_of_own {M : Mem} {w : World} {ty : TypeId} {sz : Nat} {rows : List (List I)} {v : Value} {l : Loc} (hl : M.μ l = .own v) {xs : List Value} (ho : w.ownsRow 0 ty sz v rows.length xs) (hz : ∀ r, r ∈ rows → r.length = sz)
    (hx : ∀ i r j x, rows[i]? = some r → r[j]? = some x → ∃ u, xs[i * sz + j]? = some u ∧ u.oneCell' = true ∧ RI w M.S x u) : Src M w sz rows v xs := by
  obtain ⟨h1, h2⟩ := ho
  have hone : ∀ u, u ∈ xs → u.oneCell' = true := by
    intro u hu
    obtain ⟨k, hk⟩ := List.getElem?_of_mem hu
    have hlt : k < rows.length * sz := by rw [← h1]; exact (List.getElem?_eq_some_iff.1 hk).1
    have hsz : 0 < sz := by rcases Nat.eq_zero_or_pos sz with e | e
                            · rw [e] at hlt; simp at hlt
                            · exact e
    have hi : k / sz < rows.length := (Nat.div_lt_iff_lt_mul hsz).2 hlt
    obtain ⟨u', a1, a2, _⟩ := hx (k / sz) _ (k % sz) _ (List.getElem?_eq_getElem hi) (List.getElem?_eq_getElem (by rw [hz _ (List.getElem_mem hi)]; exact Nat.mod_lt _ hsz))
    rw [divmod k sz hsz, hk] at a1
    cases a1
    exact a2
  refine ⟨h1, hz, hx, hone, ?_⟩
  rcases h2 with ⟨rfl, hn⟩ | ⟨g, cap, cur, rfl, hg0, hg, hnc, hcm, hcs, htk⟩
  · exact .inl ⟨rfl, List.eq_nil_of_length_eq_zero hn⟩
  · refine .inr ⟨g, 0, cap, rfl, hnc, hcm, fun j u hj => ?_, .inr ⟨l, by rw [hl]; rfl⟩⟩
    have hjl : j < rows.length * sz := by rw [← h1]; exact (List.getElem?_eq_some_iff.1 hj).1
    rw [← htk, List.getElem?_take_of_lt hjl] at hj
    rw [Nat.zero_add]
    simpa [World.cell?, hg] using hj

theorem src_ok {M : Mem} {s : St} {w : World} {a : Act} (hr : Rep M s w a) {y : D} {v : Value} (hv : R M w y v) {ys : List (List I)} {sz : Nat} (hy : rowsOf s y = some ys) (hs : szOk s sz y) : ∃ news, Src M w sz ys v news := by
  cases hv with
  | i x v h =>
    cases x with
    | sl f sz' rows =>
      simp only [rowsOf, Option.some.injEq] at hy
      simp only [szOk] at hs
      subst hy hs
      exact src_of_RI h
    | lit u =>
      cases h
      unfold rowsOf at hy
      split at hy
      · rename_i heq; cases heq
      · rename_i heq
        cases heq
        cases hy
        exact ⟨[], ⟨by simp, by simp, by simp, by simp, .inl ⟨rfl, rfl⟩⟩⟩
      · rename_i heq; cases heq
      · cases hy
    | _ => simp [rowsOf] at hy
  | os l v hl hone =>
    simp only [rowsOf] at hy
    simp only [szOk] at hs
    split at hy
    · rename_i ty sz' rows hds
      rw [hds] at hs
      simp only at hs
      cases hy
      subst hs
      have := hr.hp l _ hds
      rw [hl] at this
      obtain ⟨xs, h1, h2, h3⟩ := this
      exact ⟨xs, src_of_own hl h1 h2 h3⟩
    · cases hy
  | _ => simp [rowsOf] at hy


/-! ### append -/
theorem run_append_none {P : Program} {t e : TypeId} {i : TypeInfo} (ht : P.underlying t = some (.slice e)) (hi : P.info? e = some i) (ty : TypeId) (w : World) (b : Option Addr) (n c : Nat) (hnc : n ≤ c) :
    (Builtin.append_ #[t, t] ty #[.slice b n c, .slice none 0 0]).run P w = .ok (.slice b n c) w := by
  cases b <;> simp [Builtin.append_, run_underlying ht, sizeOf, typeInfo, hi, Builtin.lenOf, Builtin.firstCells, hnc, storeCells]

/-- append onto a slice that is nil or the state's own: any source. -/
theorem append_own {P : Program} {t e : TypeId} {ti : TI} {i : TypeInfo} {d : TypeDesc} {z : Value} (ht : P.underlying t = some (.slice e)) (hte : TIs P e ti i d z) (hsz : 0 < ti.size) (ty : TypeId) {M : Mem} {w : World} {v u : Value} {n : Nat} {xs : List Value}
    (ho : w.ownsRow 0 e ti.size v n xs) {ys : List (List I)} {news : List Value} (hs : Src M w ti.size ys u news) (hb : (n + ys.length) * ti.bytes ≤ 140737488355328) (hm : n + ys.length ≤ maxLen) :
    ∃ v' w', (Builtin.append_ #[t, t] ty #[v, u]).run P w = .ok v' w' ∧ w'.ownsRow 0 e ti.size v' (n + ys.length) (xs ++ news) ∧ w.grownBy w' v.ownBlock ∧ (v'.ownBlock = v.ownBlock ∨ v'.ownBlock = some w.heap.size) := by
  have hzc : z.cells.size = ti.size := by rw [← Array.length_toList, hte.cells]; simpa using hte.len
  rcases hs.val with ⟨rfl, hy⟩ | ⟨b, off, c, rfl, hyc, hcm, hcell, _⟩
  · subst hy
    have hn : news = [] := List.eq_nil_of_length_eq_zero (by simpa using hs.len)
    subst hn
    refine ⟨v, w, ?_, by simpa using ho, World.grownBy.refl w _, .inl rfl⟩
    rcases ho.2 with ⟨rfl, rfl⟩ | ⟨g, cap, cur, rfl, _, _, hnc, _⟩
    · exact run_append_none ht hte.info ty w none 0 0 (Nat.le_refl _)
    · exact run_append_none ht hte.info ty w _ n cap hnc
  · obtain ⟨v', w', h1, h2, h3, _, h5⟩ := run_append_own_at (P := P) w 0 t ty e i z ti.size ti.bytes ht hte.info hte.zero hte.size hte.bytes hzc hsz v n xs ho ⟨b, off, none⟩ ys.length c news hs.len
      (fun j q hq => by rw [addr_add]; exact hcell j q hq) hs.one hm hb (Nat.zero_le _)
    exact ⟨v', w', h1, h2, h3, h5⟩

theorem rows_append {M : Mem} {w : World} {sz : Nat} {rows ys : List (List I)} {xs news : List Value} (hl : xs.length = rows.length * sz)
    (hx : ∀ i r j x, rows[i]? = some r → r[j]? = some x → ∃ u, xs[i * sz + j]? = some u ∧ u.oneCell' = true ∧ RI w M.S x u)
    (hy : ∀ i r j x, ys[i]? = some r → r[j]? = some x → ∃ u, news[i * sz + j]? = some u ∧ u.oneCell' = true ∧ RI w M.S x u) :
    ∀ i r j x, (rows ++ ys)[i]? = some r → r[j]? = some x → ∃ u, (xs ++ news)[i * sz + j]? = some u ∧ u.oneCell' = true ∧ RI w M.S x u := by
  intro i r j x hi hj
  by_cases h : i < rows.length
  · rw [List.getElem?_append_left h] at hi
    obtain ⟨u, a1, a2⟩ := hx i r j x hi hj
    exact ⟨u, by rw [List.getElem?_append_left (List.getElem?_eq_some_iff.1 a1).1]; exact a1, a2⟩
  · rw [List.getElem?_append_right (by omega)] at hi
    obtain ⟨u, a1, a2⟩ := hy _ r j x hi hj
    refine ⟨u, ?_, a2⟩
    have h3 : rows.length * sz ≤ i * sz := Nat.mul_le_mul_right _ (by omega)
    rw [List.getElem?_append_right (by omega), ← a1]
    congr 1
    rw [Nat.sub_mul]
    omega

def appendP (P : Program) (s : St) (k : Nat) (t : TypeId) (x y : D) (K : D → St → Prop) : Prop :=
  match tiOf P t with
  | some { k := .sl e, .. } => (match tiOf P e, rowsOf s y with
    | some ti, some ys => 0 < ti.size ∧ szOk s ti.size y ∧ (match x with
      | .os l => (match hlook s.hp l with
        | some (.arr ty sz rows) => ty = e ∧ sz = ti.size ∧ l ∉ s.df ∧ (rows.length + ys.length) * ti.bytes ≤ 140737488355328 ∧ rows.length + ys.length ≤ 9223372036854775807 ∧
            K (.os l) { s.kill l with hp := hupd (s.kill l).hp l (.arr e sz (rows ++ ys)) }
        | _ => False)
      | .i (.lit (.slice none 0 0)) => ys.length * ti.bytes ≤ 140737488355328 ∧ ys.length ≤ 9223372036854775807 ∧ K (.os (.l k)) { s with hp := hupd s.hp (.l k) (.arr e ti.size ys), nx := k + 1 }
      | .i (.sl true sz rows) => sz = ti.size ∧ ys ≠ [] ∧ (rows.length + ys.length) * ti.bytes ≤ 140737488355328 ∧ rows.length + ys.length ≤ 9223372036854775807 ∧
            K (.os (.l k)) { s with hp := hupd s.hp (.l k) (.arr e sz (rows ++ ys)), nx := k + 1 }
      | _ => False)
    | _, _ => False)
  | _ => False

theorem own_one {w : World} {e : TypeId} {sz n : Nat} {v : Value} {xs : List Value} (h : w.ownsRow 0 e sz v n xs) : v.oneCell' = true := by
  rcases h.2 with ⟨rfl, _⟩ | ⟨g, cap, cur, rfl, _⟩ <;> rfl

theorem own_lt {w : World} {e : TypeId} {sz n : Nat} {v : Value} {xs : List Value} (h : w.ownsRow 0 e sz v n xs) (b : Nat) (hb : v.ownBlock = some b) : b < w.heap.size := by
  rcases h.2 with ⟨rfl, _⟩ | ⟨g, cap, cur, rfl, _, hg, _⟩
  · simp [Value.ownBlock] at hb
  · have : g = b := by simpa [Value.ownBlock] using hb
    subst this
    exact (Array.getElem?_eq_some_iff.1 hg).1

theorem append_ok {P : Program} {M : Mem} {s : St} {w : World} {a : Act} (hr : Rep M s w a) (k : Nat) (hk : s.nx ≤ k) {t ty : TypeId} {x y : D} {K : D → St → Prop} (h : appendP P s k t x y K)
    {v u : Value} (hv : R M w x v) (hu : R M w y u) : ∃ q w' M' s' d, (Builtin.append_ #[t, t] ty #[v, u]).run P w = .ok q w' ∧ Rep M' s' w' a ∧ R M' w' d q ∧ Ext M w M' w' ∧ K d s' := by
  unfold appendP at h
  split at h
  case h_2 => exact h.elim
  rename_i tsize tbytes e tz htt
  obtain ⟨it, dt, zt, ht⟩ := tiOf_spec htt
  have hte : P.underlying t = some (.slice e) := by
    have := ht.k
    rw [ht.und]
    simp only at this
    cases dt <;> simp [kOf] at this
    subst this; rfl
  split at h
  case h_2 => exact h.elim
  rename_i ti ys hti hys
  obtain ⟨i, d, z, hi⟩ := tiOf_spec hti
  obtain ⟨hsz, hszo, h⟩ := h
  obtain ⟨news, hsrc⟩ := src_ok hr hu hys hszo
  split at h
  · -- the state's own
    rename_i l
    split at h
    case h_2 => exact h.elim
    rename_i ty' sz rows hds
    obtain ⟨rfl, rfl, hdf, hb, hm, hK⟩ := h
    cases hv with
    | os _ _ hl hone =>
    have hbb := hr.hp l _ hds
    rw [hl] at hbb
    obtain ⟨xs, ho, hz, hx⟩ := hbb
    obtain ⟨v', w', h1, h2, h3, h5⟩ := append_own hte hi hsz ty ho hsrc hb (by simpa [maxLen] using hm)
    have hturn : Turns M l w w' := ⟨h3.os, h3.tape, h3.output, h3.size, fun b hb hn => h3.block b hb (fun e => hn (by rw [hl]; exact e.symm))⟩
    have hS : ∀ n, M.S n → w'.heap[n]? = w.heap[n]? := fun n hn => hturn.keep n (hr.inv.slt n hn) (hr.inv.sep n hn l)
    have hp : ∀ n, (Place.own v').has n → ((M.μ l).has n ∨ w.heap.size ≤ n) ∧ n < w'.heap.size := by
      intro n hn
      refine ⟨?_, own_lt h2 n hn⟩
      rcases h5 with h5 | h5
      · left; rw [hl]; show v.ownBlock = some n; rw [← h5]; exact hn
      · right; rw [Place.has, h5] at hn; exact Nat.le_of_eq (Option.some.inj hn)
    have hrep := hr.turn l (.own v') (.arr ty' ti.size (rows ++ ys)) hturn hp
      ⟨xs ++ news, by rw [List.length_append]; exact h2, fun r hr' => (List.mem_append.1 hr').elim (hz r) (hsrc.rows r), rows_append (M := M.set l (.own v')) ho.1
        (fun i r j x hi hj => by obtain ⟨q, a1, a2, a3⟩ := hx i r j x hi hj; exact ⟨q, a1, a2, a3.mono hS (fun _ q => q)⟩)
        (fun i r j x hi hj => by obtain ⟨q, a1, a2, a3⟩ := hsrc.at_ i r j x hi hj; exact ⟨q, a1, a2, a3.mono hS (fun _ q => q)⟩)⟩
      (fun q hq e => hdf (e ▸ hq)) (fun q e => hr.nx q (by rw [← e, hl]; simp))
    exact ⟨v', w', _, _, .os l, h1, hrep, .os l v' (by simp [Mem.set]) (own_one h2), hturn.ext _ (fun b hb => (hp b hb).1), hK⟩
  · -- nil
    obtain ⟨hb, hm, hK⟩ := h
    cases hv with
    | i _ _ hv =>
    cases hv
    obtain ⟨v', w', h1, h2, h3, h5⟩ := append_own (n := 0) (xs := []) hte hi hsz ty (World.ownsRow_nil w 0 e ti.size) hsrc (by simpa using hb) (by simpa [maxLen] using hm)
    have hkeep : ∀ n, n < w.heap.size → w'.heap[n]? = w.heap[n]? := fun n hn => h3.block n hn (by simp [Value.ownBlock])
    have hS : ∀ n, M.S n → w'.heap[n]? = w.heap[n]? := fun n hn => hkeep n (hr.inv.slt n hn)
    obtain ⟨g1, g2⟩ := hr.fresh (w' := w') k hk (.own v') (.arr e ti.size ys) h3.os h3.tape h3.output h3.size hkeep
      (fun n hn => ⟨by rcases h5 with h5 | h5
                       · rw [Place.has, h5] at hn; simp [Value.ownBlock] at hn
                       · rw [Place.has, h5] at hn; exact Nat.le_of_eq (Option.some.inj hn), own_lt h2 n hn⟩)
      ⟨news, by simpa using h2, hsrc.rows, fun i r j x hi hj => by obtain ⟨q, a1, a2, a3⟩ := hsrc.at_ i r j x hi hj; exact ⟨q, a1, a2, a3.mono hS (fun _ q => q)⟩⟩
    exact ⟨v', w', _, _, _, h1, g1, .os _ v' (by simp [Mem.set]) (own_one h2), g2, hK⟩
  · -- full
    rename_i sz rows
    obtain ⟨rfl, hne, hb, hm, hK⟩ := h
    cases hv with
    | i _ _ hv =>
    obtain ⟨olds, hso⟩ := src_of_RI hv
    have hyl : 0 < ys.length := List.length_pos_iff.2 hne
    obtain ⟨b, off, c, rfl, hyc, hcm, hcell, _⟩ : ∃ b off c, u = .slice (some ⟨b, off, none⟩) ys.length c ∧ ys.length ≤ c ∧ c ≤ maxLen ∧ (∀ j q, news[j]? = some q → w.cell? ⟨b, off + j, none⟩ = some q) ∧ (M.S b ∨ ∃ l, (M.μ l).has b) := by
      rcases hsrc.val with ⟨_, h⟩ | h
      · exact absurd h hne
      · exact h
    have hzc : z.cells.size = ti.size := by rw [← Array.length_toList, hi.cells]; simpa using hi.len
    have hm' : rows.length + ys.length ≤ maxLen := by simpa [maxLen] using hm
    have fin : ∀ (cap old : Nat), cap = grownCap w (rows.length + ys.length) old e →
        let w' := w.drew.alloc (.cells (olds.toArray ++ news.toArray ++ Builtin.zeroCells z.cells (cap - (rows.length + ys.length))) e)
        (Builtin.append_ #[t, t] ty #[v, .slice (some ⟨b, off, none⟩) ys.length c]).run P w = .ok (.slice (some ⟨w.heap.size, 0, none⟩) (rows.length + ys.length) cap) w' →
        ∃ q w' M' s' d, (Builtin.append_ #[t, t] ty #[v, .slice (some ⟨b, off, none⟩) ys.length c]).run P w = .ok q w' ∧ Rep M' s' w' a ∧ R M' w' d q ∧ Ext M w M' w' ∧ K d s' := by
      intro cap old hcap w' hrun
      have hge : rows.length + ys.length ≤ cap := hcap ▸ grownCap_ge w _ old e
      have hle : cap ≤ maxLen := hcap ▸ grownCap_le_maxLen w _ old e hm'
      have hkeep : ∀ n, n < w.heap.size → w'.heap[n]? = w.heap[n]? := fun n hn => halloc_old w.drew _ n hn
      have hS : ∀ n, M.S n → w'.heap[n]? = w.heap[n]? := fun n hn => hkeep n (hr.inv.slt n hn)
      have ho : w'.ownsRow 0 e ti.size (.slice (some ⟨w.heap.size, 0, none⟩) (rows.length + ys.length) cap) (rows.length + ys.length) (olds ++ news) := by
        refine ⟨by rw [List.length_append, hso.len, hsrc.len, Nat.add_mul], .inr ⟨w.heap.size, cap, _, rfl, Nat.zero_le _, halloc_new w.drew _, hge, hle, ?_, ?_⟩⟩
        · simp only [Array.size_append, List.size_toArray, size_zeroCells, hzc, hso.len, hsrc.len, ← Nat.add_mul]
          congr 1
          omega
        · simp only [Array.toList_append, List.append_assoc]
          rw [← List.append_assoc, List.take_left' (by rw [List.length_append, hso.len, hsrc.len, Nat.add_mul])]
      obtain ⟨g1, g2⟩ := hr.fresh (w' := w') k hk (.own (.slice (some ⟨w.heap.size, 0, none⟩) (rows.length + ys.length) cap)) (.arr e ti.size (rows ++ ys)) rfl rfl rfl (by simp [w']) hkeep
        (fun n hn => ⟨Nat.le_of_eq (Option.some.inj hn), own_lt ho n hn⟩)
        ⟨olds ++ news, by rw [List.length_append]; exact ho, fun r hr' => (List.mem_append.1 hr').elim (hso.rows r) (hsrc.rows r), rows_append hso.len
          (fun i r j x hi hj => by obtain ⟨q, a1, a2, a3⟩ := hso.at_ i r j x hi hj; exact ⟨q, a1, a2, a3.mono hS (fun _ q => q)⟩)
          (fun i r j x hi hj => by obtain ⟨q, a1, a2, a3⟩ := hsrc.at_ i r j x hi hj; exact ⟨q, a1, a2, a3.mono hS (fun _ q => q)⟩)⟩
      exact ⟨_, w', _, _, _, hrun, g1, .os _ _ (by simp [Mem.set]) rfl, g2, hK⟩
    have hbi : (rows.length + ys.length) * i.bytes ≤ 140737488355328 := by rw [hi.bytes]; exact hb
    cases hv with
    | nil =>
      have hlen : olds = [] := List.eq_nil_of_length_eq_zero (by simpa using hso.len)
      subst hlen
      have hrun := run_append_nil (P := P) w t ty e i z hte hi.info hi.zero ⟨b, off, none⟩ ys.length c news (by rw [hi.size]; exact hsrc.len) (fun j q hq => by rw [addr_add]; exact hcell j q hq) hyl
        (by simp only [List.length_nil, Nat.zero_add] at hm; omega) (by simp only [List.length_nil, Nat.zero_add] at hbi; omega)
      refine fin (grownCap w ys.length 0 e) 0 (by simp) ?_
      simpa using hrun
    | sl f sz rows b0 off0 cap V hb0 hn hc hf hz h1 h2 =>
      have hcap : cap = rows.length := hf rfl
      subst hcap
      have hso2 : ∀ j q, olds[j]? = some q → w.cell? ((⟨b0, off0, none⟩ : Addr).add j) = some q := by
        intro j q hq
        rw [addr_add]
        rcases hso.val with ⟨h, _⟩ | ⟨b', off', c', he, _, _, hc', _⟩
        · cases h
        · cases he; exact hc' j q hq
      have hrun := run_append_grow (P := P) w t ty e i z hte hi.info hi.zero ⟨b0, off0, none⟩ rows.length rows.length olds (by rw [hi.size]; exact hso.len) hso2 ⟨b, off, none⟩ ys.length c news (by rw [hi.size]; exact hsrc.len)
        (fun j q hq => by rw [addr_add]; exact hcell j q hq) (by omega) (by omega) (growslice_fits (by omega) hbi)
      exact fin _ rows.length rfl hrun
  · exact h.elim

end Go.Aw

/-
  Slices that are made; elements and parts of slices and strings; lengths; numbers, texts and bools.
-/
namespace Go.Aw

def TK.elem : TK → Option TypeId
  | .sl e => some e
  | _ => none

theorem und_sl {P : Program} {t : TypeId} {ti : TI} {i : TypeInfo} {d : TypeDesc} {z : Value} (h : TIs P t ti i d z) {e : TypeId} (hk : ti.k = .sl e) : P.underlying t = some (.slice e) := by
  rw [h.und]
  have := h.k
  rw [hk] at this
  cases d <;> simp [kOf] at this
  subst this; rfl

theorem und_arr {P : Program} {t : TypeId} {ti : TI} {i : TypeInfo} {d : TypeDesc} {z : Value} (h : TIs P t ti i d z) {n : Nat} {e : TypeId} (hk : ti.k = .arr n e) : P.underlying t = some (.array n e) := by
  rw [h.und]
  have := h.k
  rw [hk] at this
  cases d <;> simp [kOf] at this
  obtain ⟨rfl, rfl⟩ := this; rfl

theorem und_str {P : Program} {t : TypeId} {ti : TI} {i : TypeInfo} {d : TypeDesc} {z : Value} (h : TIs P t ti i d z) (hk : ti.k = .str) : P.underlying t = some .string := by
  rw [h.und]
  have := h.k
  rw [hk] at this
  cases d <;> simp [kOf] at this
  rfl

/-! ### A literal -/
def partsRows (sz : Nat) : Nat → List (Nat × D) → Option (List (List I))
  | _, [] => some []
  | k, (i, d) :: r => if i = k then
      (match rowOf d with
      | some row => if row.length = sz then (partsRows sz (k + 1) r).map (row :: ·) else none
      | none => none) else none

theorem partsRows_fill (sz : Nat) : ∀ (parts : List (Nat × D)) (k : Nat) (rows : List (List I)) (pre suf : List D), partsRows sz k parts = some rows → pre.length = k * sz → suf.length = parts.length * sz →
    fillD (fun i => some (i * sz, sz)) (pre ++ suf) parts = some (pre ++ (rows.flatten.map .i)) ∧ rows.length = parts.length ∧ ∀ r, r ∈ rows → r.length = sz
  | [], k, rows, pre, suf, h, hp, hs => by
    simp only [partsRows, Option.some.injEq] at h
    subst h
    have : suf = [] := List.eq_nil_of_length_eq_zero (by simpa using hs)
    subst this
    simp [fillD]
  | (i, d) :: parts, k, rows, pre, suf, h, hp, hs => by
    simp only [partsRows] at h
    split at h
    · rename_i hik
      subst hik
      split at h
      · rename_i row hrow
        split at h
        · rename_i hlen
          simp only [Option.map_eq_some_iff] at h
          obtain ⟨rest, hrest, rfl⟩ := h
          obtain ⟨hc, hx⟩ := rowOf_cells hrow
          simp only [List.length_cons, Nat.add_mul, Nat.one_mul] at hs
          have ih := partsRows_fill sz parts (i + 1) rest (pre ++ row.map .i) (suf.drop sz) hrest (by simp [hp, hlen, Nat.add_mul]) (by simp; omega)
          refine ⟨?_, by simp [ih.2.1], fun r hr => (List.mem_cons.1 hr).elim (fun e => e ▸ hlen) (ih.2.2 r)⟩
          simp only [fillD]
          rw [if_pos ⟨hx, by rw [hc]; simpa using hlen, by simp [hp]; omega⟩, hc]
          have e1 : (pre ++ suf).take (i * sz) = pre := List.take_left' hp
          have e2 : (pre ++ suf).drop (i * sz + sz) = suf.drop sz := by rw [← hp, ← List.drop_drop, List.drop_left]
          rw [e1, e2, ih.1]
          simp
        · cases h
      · cases h
    · cases h

def buildSliceP (P : Program) (s : St) (k : Nat) (t : TypeId) (n : Nat) (parts : List (Nat × D)) (K : D → St → Prop) : Prop :=
  match tiOf P t with
  | some { k := .sl e, .. } => (match tiOf P e with
    | some ti => (match partsRows ti.size 0 parts with
      | some rows => 0 < ti.size ∧ parts.length = n ∧ n * ti.size ≤ 16777216 ∧ K (.os (.l k)) { s with hp := hupd s.hp (.l k) (.arr e ti.size rows), nx := k + 1 }
      | none => False)
    | none => False)
  | _ => False

theorem flat_get {α : Type} (sz : Nat) : ∀ (rows : List (List α)) (i : Nat) (r : List α) (j : Nat) (x : α), (∀ r, r ∈ rows → r.length = sz) → rows[i]? = some r → r[j]? = some x → rows.flatten[i * sz + j]? = some x
  | [], i, r, j, x, _, h, _ => by simp at h
  | q :: rows, 0, r, j, x, hz, h, hj => by
    simp at h
    subst h
    rw [List.flatten_cons, Nat.zero_mul, Nat.zero_add, List.getElem?_append_left (List.getElem?_eq_some_iff.1 hj).1]
    exact hj
  | q :: rows, i + 1, r, j, x, hz, h, hj => by
    have hq := hz q (by simp)
    rw [List.flatten_cons, List.getElem?_append_right (by rw [hq, Nat.add_mul]; omega), ← flat_get sz rows i r j x (fun r hr => hz r (by simp [hr])) (by simpa using h) hj]
    congr 1
    rw [hq, Nat.add_mul]
    omega

theorem buildSlice_ok {P : Program} {M : Mem} {s : St} {w : World} {a : Act} (hr : Rep M s w a) (k : Nat) (hk : s.nx ≤ k) {t : TypeId} {n : Nat} {parts : List (Nat × D)} {vs : Array (Nat × Value)} {K : D → St → Prop}
    (h : buildSliceP P s k t n parts K) (hl : parts.length = vs.size) (hp : ∀ (j : Nat) p q, parts[j]? = some p → vs[j]? = some q → q.1 = p.1 ∧ R M w p.2 q.2) :
    ∃ q w' M' s' d, (Instr.buildSlice t n vs).run P w = .ok q w' ∧ Rep M' s' w' a ∧ R M' w' d q ∧ Ext M w M' w' ∧ K d s' := by
  unfold buildSliceP at h
  split at h
  case h_2 => exact h.elim
  rename_i tsize tbytes e tz htt
  obtain ⟨it, dt, zt, ht⟩ := tiOf_spec htt
  have hte := und_sl ht rfl
  split at h
  case h_2 => exact h.elim
  rename_i ti hti
  obtain ⟨i, d, z, hi⟩ := tiOf_spec hti
  split at h
  case h_2 => exact h.elim
  rename_i rows hrows
  obtain ⟨hsz, hn, hlim, hK⟩ := h
  have hzc : z.cells.size = ti.size := by rw [← Array.length_toList, hi.cells]; simpa using hi.len
  let cs0 : Array Value := (Array.range (n * ti.size)).map (z.cells[· % z.cells.size]!)
  let ds0 : List D := (List.range (n * ti.size)).map fun j => ((ti.z.map zD)[j % ti.size]?).getD .any
  obtain ⟨f1, f2, f3⟩ := partsRows_fill ti.size parts 0 rows [] ds0 hrows (by simp) (by simp [ds0, hn])
  simp only [List.nil_append] at f1
  obtain ⟨zz1, zz2⟩ := zeros_get hi M w
  obtain ⟨res, r1, r2, r3⟩ := fill_ok (M := M) (w := w) (fun i => some (i * ti.size, ti.size)) parts vs.toList ds0 cs0 _ f1 (by simpa using hl) (fun j p q hj hq => hp j p q hj (by simpa using hq)) (by simp [cs0, ds0])
    (fun j e hj => by
      simp only [ds0, List.getElem?_map, Option.map_eq_some_iff] at hj
      obtain ⟨j', hj', rfl⟩ := hj
      have hlt : j < n * ti.size := by have := (List.getElem?_eq_some_iff.1 hj').1; simpa using this
      have : j' = j := by rw [List.getElem?_range hlt] at hj'; exact (Option.some.inj hj').symm
      subst this
      have hm : j' % ti.size < ti.z.length := by rw [hi.len]; exact Nat.mod_lt _ hsz
      have e1 : ti.z[j' % ti.size]? = some (ti.z[j' % ti.size]) := List.getElem?_eq_getElem hm
      have e2 : cs0.getD j' undef = z.cells.getD (j' % ti.size) undef := by
        have hm2 : j' % ti.size < z.cells.size := by rw [hzc]; exact Nat.mod_lt _ hsz
        simp only [cs0, Array.getD_eq_getD_getElem?, Array.getElem?_map, Array.getElem?_range, hlt, if_true, Option.map_some, Option.getD_some, hzc, getElem!_pos z.cells (j' % ti.size) hm2, Array.getElem?_eq_getElem hm2]
      rw [e1, e2]
      exact zz2 _ _ (by simp [e1]))
  have hrun : (Instr.buildSlice t n vs).run P w = .ok (.slice (some ⟨w.heap.size, 0, none⟩) n n) (w.alloc (.cells res e)) := by
    unfold Instr.buildSlice
    simp only [Sem.run_bind, run_underlying hte, Result.andThen_ok, run_sizeOf hi]
    rw [if_neg (by simpa using hlim)]
    by_cases h0 : n * ti.size = 0
    · have hn0 : n = 0 := (Nat.mul_eq_zero.1 h0).elim id (fun h => absurd h (by omega))
      have hv0 : vs.toList = [] := by have : vs.size = 0 := by omega
                                      simpa using this
      have hres : res = #[] := by
        rw [hv0] at r1
        simp only [Instr.fill, Option.some.injEq] at r1
        rw [← r1]
        simp [cs0, hn0]
      have hvs : vs = #[] := by simpa using hv0
      subst hvs hn0 hres
      have hz0 : Array.range 0 = #[] := by apply Array.ext'; simp
      simp [newRow, Instr.fill, hz0]
    · rw [if_neg h0]
      have hr1 : Instr.fill (fun i => some (i * ti.size, ti.size)) ((Array.range (n * ti.size)).map (z.cells[· % z.cells.size]!)) vs.toList = some res := r1
      simp only [Sem.run_bind, zeroValue, typeInfo, run_program, Result.andThen_ok, hi.info, hi.zero, Sem.run_pure, hr1, newRow, run_newObj]
      rfl
  have hlen : rows.length = n := by omega
  have hres : res.size = n * ti.size := by
    rw [r2, List.length_map, List.length_flatten]
    have : rows.map List.length = List.replicate rows.length ti.size := by
      apply List.ext_getElem (by simp)
      intro j h1 h2
      simp only [List.getElem_map, List.getElem_replicate]
      exact f3 _ (List.getElem_mem _)
    rw [this]
    simp [hlen]
  have hkeep : ∀ m, m < w.heap.size → (w.alloc (.cells res e)).heap[m]? = w.heap[m]? := fun m hm => halloc_old w _ m hm
  have hS : ∀ m, M.S m → (w.alloc (.cells res e)).heap[m]? = w.heap[m]? := fun m hm => hkeep m (hr.inv.slt m hm)
  have ho : (w.alloc (.cells res e)).ownsRow 0 e ti.size (.slice (some ⟨w.heap.size, 0, none⟩) n n) n res.toList :=
    World.ownsRow_lit w res n (Nat.zero_le _) (by simp only [maxLen]; have : n * 1 ≤ n * ti.size := Nat.mul_le_mul_left _ hsz; omega) hres
  obtain ⟨g1, g2⟩ := hr.fresh (w' := w.alloc (.cells res e)) k hk (.own (.slice (some ⟨w.heap.size, 0, none⟩) n n)) (.arr e ti.size rows) rfl rfl rfl (by simp) hkeep
    (fun m hm => ⟨Nat.le_of_eq (Option.some.inj hm), own_lt ho m hm⟩)
    ⟨res.toList, by rw [hlen]; exact ho, f3, fun i r j x hi hj => by
      have hfl := flat_get ti.size rows i r j x f3 hi hj
      obtain ⟨a1, a2⟩ := r3 (i * ti.size + j) (.i x) (by rw [List.getElem?_map, hfl]; rfl)
      have hlt : i * ti.size + j < res.size := by rw [r2, List.length_map]; exact (List.getElem?_eq_some_iff.1 hfl).1
      cases a2 with
      | i _ _ a2 =>
      exact ⟨res.getD (i * ti.size + j) undef, by simp [Array.getD_eq_getD_getElem?, hlt], a1, a2.mono hS (fun _ q => q)⟩⟩
  exact ⟨_, _, _, _, _, hrun, g1, .os _ _ (by simp [Mem.set]) rfl, g2, hK⟩

/-! ### make([]T, n) -/
def makeP (P : Program) (s : St) (k : Nat) (t : TypeId) (x y : D) (K : D → St → Prop) : Prop :=
  match tiOf P t with
  | some { k := .sl e, .. } => (match tiOf P e, x, y with
    | some ti, .i (.lit (.int _ n)), .i (.lit (.int _ c)) => 0 < ti.size ∧ 0 ≤ n ∧ n ≤ c ∧ (ti.bytes : Int) * c ≤ 281474976710656 ∧ c ≤ 9223372036854775807 ∧
        K (.os (.l k)) { s with hp := hupd s.hp (.l k) (.arr e ti.size (List.replicate n.toNat (ti.z.map fun z => .lit z.val))), nx := k + 1 }
    | _, _, _ => False)
  | _ => False

theorem make_ok {P : Program} {M : Mem} {s : St} {w : World} {a : Act} (hr : Rep M s w a) (k : Nat) (hk : s.nx ≤ k) {t : TypeId} {x y : D} {K : D → St → Prop} (h : makeP P s k t x y K) {v u : Value} (hv : R M w x v) (hu : R M w y u) :
    ∃ q w' M' s' d, (Instr.makeSlice t v u).run P w = .ok q w' ∧ Rep M' s' w' a ∧ R M' w' d q ∧ Ext M w M' w' ∧ K d s' := by
  unfold makeP at h
  split at h
  case h_2 => exact h.elim
  rename_i tsize tbytes e tz htt
  obtain ⟨it, dt, zt, ht⟩ := tiOf_spec htt
  have hte := und_sl ht rfl
  split at h
  case h_2 => exact h.elim
  rename_i ti kn n kc c hti
  obtain ⟨i, d, z, hi⟩ := tiOf_spec hti
  obtain ⟨hsz, h0, hnc, hb, hc, hK⟩ := h
  cases hv with
  | i _ _ hv =>
  cases hv
  cases hu with
  | i _ _ hu =>
  cases hu
  have hzc : z.cells.size = ti.size := by rw [← Array.length_toList, hi.cells]; simpa using hi.len
  have hrun := run_make (P := P) w t e i z hte hi.info hi.zero kn kc n c h0 hnc (by rw [hi.bytes]; exact hb) hc
  rw [hi.size] at hrun
  have hkeep : ∀ m, m < w.heap.size → (w.alloc (.cells (madeCells z.cells (c.toNat * ti.size)) e)).heap[m]? = w.heap[m]? := fun m hm => halloc_old w _ m hm
  have hms : (madeCells z.cells (c.toNat * ti.size)).size = c.toNat * ti.size := by simp [madeCells]
  have hnc' : n.toNat ≤ c.toNat := by omega
  have hle : n.toNat * ti.size ≤ c.toNat * ti.size := Nat.mul_le_mul_right _ hnc'
  have ho : (w.alloc (.cells (madeCells z.cells (c.toNat * ti.size)) e)).ownsRow 0 e ti.size (.slice (some ⟨w.heap.size, 0, none⟩) n.toNat c.toNat) n.toNat ((madeCells z.cells (c.toNat * ti.size)).toList.take (n.toNat * ti.size)) :=
    ⟨by rw [List.length_take, Array.length_toList, hms]; omega, .inr ⟨w.heap.size, c.toNat, _, rfl, Nat.zero_le _, halloc_new w _, hnc', by simp only [maxLen]; omega, hms, rfl⟩⟩
  obtain ⟨g1, g2⟩ := hr.fresh (w' := w.alloc (.cells (madeCells z.cells (c.toNat * ti.size)) e)) k hk (.own (.slice (some ⟨w.heap.size, 0, none⟩) n.toNat c.toNat)) (.arr e ti.size (List.replicate n.toNat (ti.z.map fun z => .lit z.val))) rfl rfl rfl (by simp) hkeep
    (fun m hm => ⟨Nat.le_of_eq (Option.some.inj hm), own_lt ho m hm⟩)
    ⟨_, by rw [List.length_replicate]; exact ho, fun r hr => by rw [List.eq_of_mem_replicate hr, List.length_map]; exact hi.len, fun i r j x hi' hj => by
      have hil : i < n.toNat := by have := (List.getElem?_eq_some_iff.1 hi').1; simpa using this
      rw [List.getElem?_replicate_of_lt hil] at hi'
      cases hi'
      simp only [List.getElem?_map, Option.map_eq_some_iff] at hj
      obtain ⟨zz, hzz, rfl⟩ := hj
      have hjl : j < ti.size := by rw [← hi.len]; exact (List.getElem?_eq_some_iff.1 hzz).1
      have h3 : (i + 1) * ti.size ≤ n.toNat * ti.size := Nat.mul_le_mul_right _ hil
      rw [Nat.add_mul, Nat.one_mul] at h3
      refine ⟨zz.val, ?_, zval_one zz, .lit _ (zval_ok zz)⟩
      rw [List.getElem?_take_of_lt (by omega)]
      have hmod : (i * ti.size + j) % ti.size = j := by rw [Nat.mul_comm, Nat.mul_add_mod, Nat.mod_eq_of_lt hjl]
      have hcl : i * ti.size + j < c.toNat * ti.size := by omega
      have hzl : j < z.cells.size := by omega
      have hget : z.cells[j]? = some zz.val := by rw [← Array.getElem?_toList, hi.cells]; simp [hzz]
      simp only [madeCells, Array.getElem?_toList, Array.getElem?_map, Array.getElem?_range, hcl, if_true, Option.map_some, hzc, hmod]
      have hge : z.cells[j] = zz.val := by rw [Array.getElem?_eq_getElem hzl] at hget; exact Option.some.inj hget
      rw [getElem!_pos z.cells j hzl, hge]⟩
  exact ⟨_, _, _, _, _, hrun, g1, .os _ _ (by simp [Mem.set]) rfl, g2, hK⟩

end Go.Aw

/-
  Elements, parts, lengths, fields; numbers, texts, bools.
-/
namespace Go.Aw

/-! ### Texts as lists of bytes -/
def sB (s : ByteArray) : List UInt8 := s.data.toList
abbrev D.str (l : List UInt8) : D := .i (.lit (.string ⟨l.toArray⟩))
abbrev D.int (n : Int) : D := .i (.lit (.int .i64 n))
abbrev D.bool (b : Bool) : D := .i (.lit (.bool b))
@[simp] theorem sB_mk (l : List UInt8) : sB ⟨l.toArray⟩ = l := by simp [sB]
theorem mk_sB (s : ByteArray) : (⟨(sB s).toArray⟩ : ByteArray) = s := by simp [sB]
theorem sB_length (s : ByteArray) : (sB s).length = s.size := by
  show s.data.toList.length = s.data.size
  rw [Array.length_toList]

/-! ### The address of an element -/
def indexAddrP (P : Program) (s : St) (t : TypeId) (x ix : D) (K : D → Prop) : Prop :=
  match tiOf P t, ix with
  | some ti, .i (.lit (.int _ i)) => (match ti.k, x with
    | .sl e, .i (.sl _ sz rows) => (match tiOf P e with
      | some te => te.size = sz ∧ 0 ≤ i ∧ i < (rows.length : Int) ∧ K (.el (rows.getD i.toNat []) 0)
      | none => False)
    | .sl e, .os l => (match tiOf P e, hlook s.hp l with
      | some te, some (.arr _ sz rows) => te.size = sz ∧ 0 ≤ i ∧ i < (rows.length : Int) ∧ K (.ea l sz i.toNat 0)
      | _, _ => False)
    | .arr n e, .pt l o => (match tiOf P e with
      | some te => 0 ≤ i ∧ i < (n : Int) ∧ K (.pt l (o + i.toNat * te.size))
      | none => False)
    | _, _ => False)
  | _, _ => False

theorem own_slice {w : World} {e : TypeId} {sz n : Nat} {v : Value} {xs : List Value} (h : w.ownsRow 0 e sz v n xs) : (v = .slice none 0 0 ∧ n = 0) ∨ ∃ g c, v = .slice (some ⟨g, 0, none⟩) n c ∧ n ≤ c ∧ c ≤ maxLen := by
  rcases h.2 with ⟨rfl, h0⟩ | ⟨g, cap, cur, rfl, _, _, h1, h2, _⟩
  · exact .inl ⟨rfl, h0⟩
  · exact .inr ⟨g, cap, rfl, h1, h2⟩

theorem indexAddr_ok {P : Program} {M : Mem} {s : St} {w : World} {a : Act} (hr : Rep M s w a) {t : TypeId} {x ix : D} {K : D → Prop} (h : indexAddrP P s t x ix K) {v u : Value} (hv : R M w x v) (hu : R M w ix u) :
    ∃ y q, (Instr.indexAt t v u).run P w = .ok q w ∧ R M w y q ∧ K y := by
  unfold indexAddrP at h
  split at h
  case h_2 => exact h.elim
  rename_i ti k i hti
  obtain ⟨it, dt, zt, ht⟩ := tiOf_spec hti
  cases hu with
  | i _ _ hu =>
  cases hu
  split at h
  · rename_i e f sz rows hk
    have hte := und_sl ht hk
    split at h
    case h_2 => exact h.elim
    rename_i te hte'
    obtain ⟨ie, de, ze, hie⟩ := tiOf_spec hte'
    obtain ⟨rfl, h0, h1, hK⟩ := h
    cases hv with
    | i _ _ hv =>
    cases hv with
    | nil => simp at h1; omega
    | sl f sz rows b off cap V hb hn hc hf hz g1 g2 =>
      refine ⟨_, .pointer (some ⟨b, off + i.toNat * te.size, none⟩), ?_, ?_, hK⟩
      · simp only [Instr.indexAt, asIntOf, Sem.run_bind, Sem.run_pure, Result.andThen_ok, run_underlying hte, h0, h1, and_self, if_true, run_sizeOf hie, addr_add]
      · have hil : i.toNat < rows.length := by omega
        have hri : rows[i.toNat]? = some rows[i.toNat] := List.getElem?_eq_getElem hil
        have hD : rows.getD i.toNat [] = rows[i.toNat] := by simp [List.getD_eq_getElem?_getD, hri]
        rw [hD]
        exact R.el _ 0 b (off + i.toNat * te.size) (V i.toNat) hb (fun j x hj => g1 _ _ j x hri hj) (fun j x hj => g2 _ _ j x hri hj)
  · rename_i e l hk
    have hte := und_sl ht hk
    split at h
    case h_2 => exact h.elim
    rename_i te ty sz rows hte' hds
    obtain ⟨ie, de, ze, hie⟩ := tiOf_spec hte'
    obtain ⟨rfl, h0, h1, hK⟩ := h
    cases hv with
    | os _ _ hl hone =>
    have hbb := hr.hp l _ hds
    rw [hl] at hbb
    obtain ⟨xs, ho, hz, hx⟩ := hbb
    rcases own_slice ho with ⟨rfl, hn⟩ | ⟨g, c, rfl, hn, hc⟩
    · omega
    · refine ⟨_, .pointer (some ⟨g, i.toNat * te.size + 0, none⟩), ?_, .ea l te.size i.toNat 0 _ g hl rfl, hK⟩
      simp only [Instr.indexAt, asIntOf, Sem.run_bind, Sem.run_pure, Result.andThen_ok, run_underlying hte, h0, h1, and_self, if_true, run_sizeOf hie, addr_add]
      simp
  · rename_i n e l o hk
    have hte := und_arr ht hk
    split at h
    case h_2 => exact h.elim
    rename_i te hte'
    obtain ⟨ie, de, ze, hie⟩ := tiOf_spec hte'
    obtain ⟨h0, h1, hK⟩ := h
    cases hv with
    | pt _ b _ hl =>
    refine ⟨_, .pointer (some ⟨b, o + i.toNat * te.size, none⟩), ?_, .pt l b _ hl, hK⟩
    simp only [Instr.indexAt, Instr.sureAddr, asIntOf, Sem.run_bind, Sem.run_pure, Result.andThen_ok, run_underlying hte, h0, h1, and_self, if_true, run_sizeOf hie, addr_add]
  · exact h.elim

/-! ### A byte, an element of an array -/
def indexP (P : Program) (t : TypeId) (x ix : D) (K : D → Prop) : Prop :=
  match tiOf P t, ix with
  | some ti, .i (.lit (.int _ i)) => (match ti.k, x with
    | .str, .i (.lit (.string b)) => 0 ≤ i ∧ i < ((sB b).length : Int) ∧ K (.i (.lit (.int .u8 (((sB b).getD i.toNat 0).toNat : Int))))
    | .arr n e, .agg l => (match tiOf P e with
      | some te => 0 ≤ i ∧ i < (n : Int) ∧ i.toNat * te.size + te.size ≤ l.length ∧ 0 < te.size ∧ K (if te.agg then .agg ((l.drop (i.toNat * te.size)).take te.size) else (l[i.toNat * te.size]?).getD .any)
      | none => False)
    | _, _ => False)
  | _, _ => False

theorem run_part {P : Program} {t : TypeId} {ti : TI} {i : TypeInfo} {d : TypeDesc} {z : Value} (h : TIs P t ti i d z) (w : World) (cs : Array Value) (off : Nat) (ho : off < cs.size) :
    (part t cs off).run P w = .ok (if ti.agg then .agg (cs.extract off (off + ti.size)) else cs.getD off undef) w := by
  unfold part
  simp only [Sem.run_bind, run_isAgg h, Result.andThen_ok]
  cases ha : ti.agg with
  | true => simp [run_sizeOf h]
  | false => simp [ho, Array.getD_eq_getD_getElem?]

theorem part_R {M : Mem} {w : World} {l : List D} {cs : Array Value} (hs : cs.size = l.length) (h1 : ∀ i d, l[i]? = some d → (cs.getD i undef).oneCell' = true) (h : ∀ i d, l[i]? = some d → R M w d (cs.getD i undef)) (ag : Bool) (off n : Nat) (hn : off + n ≤ l.length) (h0 : 0 < n) :
    R M w (if ag then .agg ((l.drop off).take n) else (l[off]?).getD .any) (if ag then .agg (cs.extract off (off + n)) else cs.getD off undef) := by
  cases ag with
  | false =>
    have : l[off]? = some l[off] := List.getElem?_eq_getElem (by omega)
    simp only [Bool.false_eq_true, if_false, this, Option.getD_some]
    exact h _ _ this
  | true =>
    simp only [if_true]
    have get : ∀ i d, ((l.drop off).take n)[i]? = some d → l[off + i]? = some d ∧ (cs.extract off (off + n)).getD i undef = cs.getD (off + i) undef := by
      intro i d hi
      have hin : i < n := by have := (List.getElem?_eq_some_iff.1 hi).1; simp at this; omega
      rw [List.getElem?_take_of_lt hin, List.getElem?_drop] at hi
      refine ⟨hi, ?_⟩
      simp only [Array.getD_eq_getD_getElem?, Array.getElem?_extract]
      rw [if_pos (by omega)]
    refine .agg _ _ (by simp; omega) (fun i d hi => ?_) (fun i d hi => ?_)
    · rw [(get i d hi).2]; exact h1 _ _ (get i d hi).1
    · rw [(get i d hi).2]; exact h _ _ (get i d hi).1

theorem index_ok {P : Program} {M : Mem} {w : World} {t : TypeId} {x ix : D} {K : D → Prop} (h : indexP P t x ix K) {v u : Value} (hv : R M w x v) (hu : R M w ix u) :
    ∃ y q, (Instr.index t v u).run P w = .ok q w ∧ R M w y q ∧ K y := by
  unfold indexP at h
  split at h
  case h_2 => exact h.elim
  rename_i ti k i hti
  obtain ⟨it, dt, zt, ht⟩ := tiOf_spec hti
  cases hu with
  | i _ _ hu =>
  cases hu
  split at h
  · rename_i b hk
    have hts := und_str ht hk
    obtain ⟨h0, h1, hK⟩ := h
    cases hv with
    | i _ _ hv =>
    cases hv
    rw [sB_length] at h1
    have hlt : i.toNat < b.size := by omega
    refine ⟨_, .int .u8 (b[i.toNat].toNat : Int), ?_, ?_, hK⟩
    · simp only [Instr.index, asIntOf, Sem.run_bind, Sem.run_pure, Result.andThen_ok, run_underlying hts, h0, if_true]
      rw [show b[i.toNat]? = some b[i.toNat] from getElem?_pos b _ hlt]
      rfl
    · have : (sB b).getD i.toNat 0 = b[i.toNat] := by
        have hl : i.toNat < (sB b).length := by rw [sB_length]; exact hlt
        rw [List.getD_eq_getElem?_getD, List.getElem?_eq_getElem hl]
        simp [sB]
        rfl
      rw [this]
      exact .i _ _ (.lit _ trivial)
  · rename_i n e l hk
    have hte := und_arr ht hk
    split at h
    case h_2 => exact h.elim
    rename_i te hte'
    obtain ⟨ie, de, ze, hie⟩ := tiOf_spec hte'
    obtain ⟨h0, h1, h2, h3, hK⟩ := h
    cases hv with
    | agg _ cs hs g1 g2 =>
    refine ⟨_, _, ?_, part_R hs g1 g2 te.agg (i.toNat * te.size) te.size h2 h3, hK⟩
    simp only [Instr.index, asIntOf, Sem.run_bind, Sem.run_pure, Result.andThen_ok, run_underlying hte, h0, h1, and_self, if_true, run_sizeOf hie]
    exact run_part hie w cs _ (by omega)
  · exact h.elim

/-! ### Fields -/
def fieldsOf (P : Program) (t : TypeId) (f : Nat) : Option (Nat × TI) :=
  match tiOf P t with
  | some { k := .st fs, .. } => (match fs[f]? with
    | some (off, ft) => (tiOf P ft).map fun ti => (off, ti)
    | none => none)
  | _ => none

theorem fieldsOf_spec {P : Program} {t : TypeId} {f off : Nat} {ti : TI} (h : fieldsOf P t f = some (off, ti)) :
    ∃ F fl i d z, P.underlying t = some (.struct F) ∧ F[f]? = some fl ∧ fl.offset = off ∧ TIs P fl.type ti i d z := by
  unfold fieldsOf at h
  split at h
  · rename_i tsize tbytes fs tz htt
    obtain ⟨it, dt, zt, ht⟩ := tiOf_spec htt
    have hk := ht.k
    simp only at hk
    cases dt <;> simp [kOf] at hk
    rename_i F
    subst hk
    split at h
    · rename_i off' ft hf
      simp only [List.getElem?_map, Option.map_eq_some_iff, Prod.mk.injEq] at hf
      obtain ⟨fl, hfl, rfl, rfl⟩ := hf
      simp only [Option.map_eq_some_iff, Prod.mk.injEq] at h
      obtain ⟨ti', hti', rfl, rfl⟩ := h
      obtain ⟨i, d, z, hi⟩ := tiOf_spec hti'
      exact ⟨F, fl, i, d, z, ht.und, by simpa using hfl, rfl, hi⟩
    · cases h
  · cases h

def addO (n : Nat) : D → D
  | .pt l o => .pt l (o + n)
  | .el r o => .el r (o + n)
  | .ea l sz i o => .ea l sz i (o + n)
  | _ => .any

def fieldAddrP (P : Program) (t : TypeId) (x : D) (f : Nat) (K : D → Prop) : Prop :=
  match fieldsOf P t f with
  | some (off, ti) => 0 < ti.size ∧ (match x with | .pt _ _ => True | .el _ _ => True | .ea _ _ _ _ => True | _ => False) ∧ K (addO off x)
  | none => False

theorem fieldAddr_ok {P : Program} {M : Mem} {w : World} {t : TypeId} {x : D} {f : Nat} {K : D → Prop} (h : fieldAddrP P t x f K) {v : Value} (hv : R M w x v) :
    ∃ y q, (Instr.fieldAt t v f).run P w = .ok q w ∧ R M w y q ∧ K y := by
  unfold fieldAddrP at h
  split at h
  case h_2 => exact h.elim
  rename_i off ti hf
  obtain ⟨F, fl, i, d, z, h1, h2, rfl, h4⟩ := fieldsOf_spec hf
  obtain ⟨h0, hx, hK⟩ := h
  have hrun : ∀ b o, (Instr.fieldAt t (.pointer (some ⟨b, o, none⟩)) f).run P w = .ok (.pointer (some ⟨b, o + fl.offset, none⟩)) w := by
    intro b o
    simp only [Instr.fieldAt, Instr.sureAddr, fieldPlace, Sem.run_bind, run_underlying h1, Result.andThen_ok, h2, Sem.run_pure, run_sizeOf h4]
    rw [if_neg (by omega)]
    simp [addr_add]
  cases hv with
  | pt l b o hl => exact ⟨_, _, hrun b o, .pt l b _ hl, hK⟩
  | el row o b off V hb g1 g2 => exact ⟨_, _, hrun b _, by rw [Nat.add_assoc]; exact .el row _ b off V hb g1 g2, hK⟩
  | ea l sz i o v b hl hb => exact ⟨_, _, hrun b _, by rw [Nat.add_assoc]; exact .ea l sz i _ v b hl hb, hK⟩
  | _ => exact hx.elim

def fieldP (P : Program) (t : TypeId) (x : D) (f : Nat) (K : D → Prop) : Prop :=
  match fieldsOf P t f with
  | some (off, ti) => (match x with
    | .agg l => off + ti.size ≤ l.length ∧ 0 < ti.size ∧ K (if ti.agg then .agg ((l.drop off).take ti.size) else (l[off]?).getD .any)
    | .i (.agg l) => off + ti.size ≤ l.length ∧ 0 < ti.size ∧ K (if ti.agg then .agg (((l.map D.i).drop off).take ti.size) else ((l.map D.i)[off]?).getD .any)
    | _ => False)
  | none => False

theorem field_ok {P : Program} {M : Mem} {w : World} {t : TypeId} {x : D} {f : Nat} {K : D → Prop} (h : fieldP P t x f K) {v : Value} (hv : R M w x v) :
    ∃ y q, (Instr.field t v f).run P w = .ok q w ∧ R M w y q ∧ K y := by
  unfold fieldP at h
  split at h
  case h_2 => exact h.elim
  rename_i off ti hf
  obtain ⟨F, fl, i, d, z, h1, h2, rfl, h4⟩ := fieldsOf_spec hf
  split at h
  · rename_i l
    obtain ⟨g1, g2, hK⟩ := h
    cases hv with
    | agg _ cs hs e1 e2 =>
    refine ⟨_, _, ?_, part_R hs e1 e2 ti.agg fl.offset ti.size g1 g2, hK⟩
    simp only [Instr.field, Sem.run_bind, run_underlying h1, Result.andThen_ok, h2, asAgg, Sem.run_pure]
    exact run_part h4 w cs _ (by omega)
  · rename_i l
    obtain ⟨g1, g2, hK⟩ := h
    cases hv with
    | i _ _ hv =>
    cases hv with
    | agg _ cs hs e1 e2 =>
    have e1' : ∀ i d, (l.map D.i)[i]? = some d → (cs.getD i undef).oneCell' = true := fun i d hi => by
      simp only [List.getElem?_map, Option.map_eq_some_iff] at hi
      obtain ⟨x, hx, rfl⟩ := hi
      exact e1 i x hx
    have e2' : ∀ i d, (l.map D.i)[i]? = some d → R M w d (cs.getD i undef) := fun i d hi => by
      simp only [List.getElem?_map, Option.map_eq_some_iff] at hi
      obtain ⟨x, hx, rfl⟩ := hi
      exact .i _ _ (e2 i x hx)
    refine ⟨_, _, ?_, part_R (by simpa using hs) e1' e2' ti.agg fl.offset ti.size (by simpa using g1) g2, hK⟩
    simp only [Instr.field, Sem.run_bind, run_underlying h1, Result.andThen_ok, h2, asAgg, Sem.run_pure]
    exact run_part h4 w cs _ (by omega)
  · exact h.elim

end Go.Aw

/-
  Parts of texts and slices; lengths; what is reckoned.
-/
namespace Go.Aw

/-! ### x[lo:hi:max] -/
def boundD : Option D → Option (Option Int)
  | none => some none
  | some (.i (.lit (.int _ n))) => some (some n)
  | _ => none

def cutL {α : Type} (l : List α) (a b : Int) : List α := (l.drop a.toNat).take (b.toNat - a.toNat)

def sliceP (P : Program) (t : TypeId) (x : D) (lo hi mx : Option D) (K : D → Prop) : Prop :=
  match tiOf P t, boundD lo, boundD hi, boundD mx with
  | some ti, some l, some h, some m => (match ti.k, x with
    | .str, .i (.lit (.string b)) => (match m with
      | none => 0 ≤ l.getD 0 ∧ l.getD 0 ≤ h.getD ((sB b).length : Int) ∧ h.getD ((sB b).length : Int) ≤ ((sB b).length : Int) ∧
          K (.str (cutL (sB b) (l.getD 0) (h.getD ((sB b).length : Int))))
      | some _ => False)
    | .sl e, .i (.sl f sz rows) => (match tiOf P e with
      | some te => te.size = sz ∧ 0 ≤ l.getD 0 ∧ l.getD 0 ≤ h.getD (rows.length : Int) ∧ (match m with
        | none => h.getD (rows.length : Int) ≤ (rows.length : Int) ∧
            K (.i (.sl (f && decide (h.getD (rows.length : Int) = (rows.length : Int))) sz (cutL rows (l.getD 0) (h.getD (rows.length : Int)))))
        | some mm => (∃ hh, h = some hh) ∧ h.getD (rows.length : Int) ≤ mm ∧ mm ≤ (rows.length : Int) ∧
            K (.i (.sl (decide (h.getD (rows.length : Int) = mm)) sz (cutL rows (l.getD 0) (h.getD (rows.length : Int))))))
      | none => False)
    | _, _ => False)
  | _, _, _, _ => False

theorem boundD_spec {M : Mem} {w : World} {x : Option D} {v : Option Value} {b : Option Int} (h : boundD x = some b) (hv : ∀ d, x = some d → ∃ u, v = some u ∧ R M w d u) (hn : x = none → v = none) :
    (b = none ∧ v = none) ∨ ∃ n k, b = some n ∧ v = some (.int k n) := by
  unfold boundD at h
  split at h
  · cases h; exact .inl ⟨rfl, hn rfl⟩
  · rename_i k n
    cases h
    obtain ⟨u, hu, hr⟩ := hv _ rfl
    cases hr with
    | i _ _ hr =>
    cases hr
    exact .inr ⟨n, k, rfl, hu⟩
  · cases h

theorem cutL_length {α : Type} (l : List α) (a b : Int) (h0 : 0 ≤ a) (h1 : a ≤ b) (h2 : b ≤ (l.length : Int)) : ((cutL l a b).length : Int) = b - a := by
  simp only [cutL, List.length_take, List.length_drop]
  omega

theorem cutL_get {α : Type} {l : List α} {a b : Int} {k : Nat} {x : α} (h : (cutL l a b)[k]? = some x) : l[a.toNat + k]? = some x := by
  have hk : k < b.toNat - a.toNat := by
    have := (List.getElem?_eq_some_iff.1 h).1
    simp only [cutL, List.length_take] at this
    omega
  rw [cutL, List.getElem?_take_of_lt hk, List.getElem?_drop] at h
  exact h

theorem sliceBound_run {P : Program} {w : World} (k : IntKind) (i : Int) (y : Nat) (code : BoundsCode) (h0 : 0 ≤ i) (h1 : i ≤ (y : Int)) : (Instr.sliceBound (.int k i) y code).run P w = .ok i.toNat w := by
  simp [Instr.sliceBound, asIntOf, h0, h1]

theorem sliceBounds_run {P : Program} {w : World} (isS : Bool) (len cap : Nat) (lo hi mx : Option Value) (l h m : Option Int)
    (hl : (l = none ∧ lo = none) ∨ ∃ n k, l = some n ∧ lo = some (.int k n)) (hh : (h = none ∧ hi = none) ∨ ∃ n k, h = some n ∧ hi = some (.int k n)) (hm : (m = none ∧ mx = none) ∨ ∃ n k, m = some n ∧ mx = some (.int k n))
    (h0 : 0 ≤ l.getD 0) (h1 : l.getD 0 ≤ h.getD (len : Int)) (h2 : h.getD (len : Int) ≤ m.getD (cap : Int)) (h3 : m.getD (cap : Int) ≤ (cap : Int)) (h4 : m ≠ none → h ≠ none) :
    (Instr.sliceBounds isS len cap lo hi mx).run P w = .ok ((l.getD 0).toNat, (h.getD (len : Int)).toNat, (m.getD (cap : Int)).toNat) w := by
  unfold Instr.sliceBounds
  rcases hm with ⟨rfl, rfl⟩ | ⟨mn, mk, rfl, rfl⟩
  · rcases hh with ⟨rfl, rfl⟩ | ⟨hn, hk, rfl, rfl⟩ <;> rcases hl with ⟨rfl, rfl⟩ | ⟨ln, lk, rfl, rfl⟩ <;> simp only [Option.getD_none, Option.getD_some] at h0 h1 h2 h3 ⊢
    · simp
    · simp [sliceBound_run (P := P) (w := w) lk ln len _ h0 h1]
    · have e1 : (hn.toNat : Int) = hn := by omega
      simp [sliceBound_run (P := P) (w := w) hk hn cap _ (by omega) h2]
    · have e1 : (hn.toNat : Int) = hn := by omega
      simp [sliceBound_run (P := P) (w := w) hk hn cap _ (by omega) h2, sliceBound_run (P := P) (w := w) lk ln hn.toNat _ h0 (by omega)]
  · rcases hh with ⟨rfl, rfl⟩ | ⟨hn, hk, rfl, rfl⟩
    · exact absurd rfl (h4 (by simp))
    · rcases hl with ⟨rfl, rfl⟩ | ⟨ln, lk, rfl, rfl⟩ <;> simp only [Option.getD_none, Option.getD_some] at h0 h1 h2 h3 ⊢
      · simp [sliceBound_run (P := P) (w := w) mk mn cap _ (by omega) h3, sliceBound_run (P := P) (w := w) hk hn mn.toNat _ (by omega) (by omega)]
      · simp [sliceBound_run (P := P) (w := w) mk mn cap _ (by omega) h3, sliceBound_run (P := P) (w := w) hk hn mn.toNat _ (by omega) (by omega), sliceBound_run (P := P) (w := w) lk ln hn.toNat _ h0 (by omega)]

theorem slice_ok {P : Program} {M : Mem} {w : World} {t : TypeId} {x : D} {lo hi mx : Option D} {K : D → Prop} (h : sliceP P t x lo hi mx K) {v : Value} {vl vh vm : Option Value} (hv : R M w x v)
    (hl : ∀ d, lo = some d → ∃ u, vl = some u ∧ R M w d u) (hl' : lo = none → vl = none) (hh : ∀ d, hi = some d → ∃ u, vh = some u ∧ R M w d u) (hh' : hi = none → vh = none)
    (hm : ∀ d, mx = some d → ∃ u, vm = some u ∧ R M w d u) (hm' : mx = none → vm = none) : ∃ y q, (Instr.sliceAt t v vl vh vm).run P w = .ok q w ∧ R M w y q ∧ K y := by
  unfold sliceP at h
  split at h
  case h_2 => exact h.elim
  rename_i ti l hb m hti el eh em
  obtain ⟨it, dt, zt, ht⟩ := tiOf_spec hti
  have sl := boundD_spec el hl hl'
  have sh := boundD_spec eh hh hh'
  have sm := boundD_spec em hm hm'
  split at h
  · rename_i b hk
    have hts := und_str ht hk
    split at h
    case h_2 => exact h.elim
    obtain ⟨h0, h1, h2, hK⟩ := h
    cases hv with
    | i _ _ hv =>
    cases hv with
    | lit _ hlo =>
    rw [sB_length] at h1 h2 hK
    have hr := sliceBounds_run (P := P) (w := w) false b.size b.size vl vh none l hb none sl sh (.inl ⟨rfl, rfl⟩) h0 h1 h2 (Int.le_refl _) (by simp)
    have hvm : vm = none := by
      rcases sm with ⟨_, h⟩ | ⟨_, _, h, _⟩
      · exact h
      · cases h
    subst hvm
    refine ⟨_, .string (b.extract (l.getD 0).toNat (hb.getD (b.size : Int)).toNat), ?_, ?_, hK⟩
    · simp only [Instr.sliceAt, Sem.run_bind, run_underlying hts, Result.andThen_ok, Instr.slice, Option.isSome_none, Bool.false_eq_true, if_false, hr, Sem.run_pure]
    · rw [Lib.extract_eq]
      refine .i _ _ (.lit _ ?_)
      have hs : b.size ≤ maxLen := hlo
      show (ByteArray.mk (List.toArray _)).size ≤ maxLen
      simp only [ByteArray.size, List.size_toArray, cutL, sB, List.length_take, List.length_drop, Array.length_toList]
      have : b.data.size = b.size := rfl
      omega
  · rename_i e f sz rows hk
    have hte := und_sl ht hk
    split at h
    case h_2 => exact h.elim
    rename_i te hte'
    obtain ⟨ie, de, ze, hie⟩ := tiOf_spec hte'
    obtain ⟨rfl, h0, h1, h⟩ := h
    cases hv with
    | i _ _ hv =>
    have fin : ∀ (full : Bool), (h2 : hb.getD (rows.length : Int) ≤ (rows.length : Int)) → (m ≠ none → hb ≠ none) → (∀ mm, m = some mm → hb.getD (rows.length : Int) ≤ mm ∧ mm ≤ (rows.length : Int)) →
        (full = true → (m = none ∧ f = true ∧ hb.getD (rows.length : Int) = (rows.length : Int)) ∨ m = some (hb.getD (rows.length : Int))) →
        ∃ q, (Instr.sliceAt t v vl vh vm).run P w = .ok q w ∧ R M w (.i (.sl full te.size (cutL rows (l.getD 0) (hb.getD (rows.length : Int))))) q := by
      intro full h2 h4 h5 hfull
      cases hv with
      | nil =>
        simp only [List.length_nil, Int.natCast_zero] at h1 h2 h5
        have hmg : m.getD (0 : Int) = 0 := by
          cases hm2 : m with
          | none => rfl
          | some mm => have := h5 mm hm2; simp; omega
        have hr := sliceBounds_run (P := P) (w := w) true 0 0 vl vh vm l hb m sl sh sm h0 h1 (by simp only [Int.natCast_zero]; omega) (by simp only [Int.natCast_zero]; omega) h4
        simp only [Int.natCast_zero] at hr
        have e1 : l.getD 0 = 0 := by omega
        have e2 : hb.getD (0 : Int) = 0 := by omega
        refine ⟨.slice none 0 0, ?_, ?_⟩
        · simp only [Instr.sliceAt, Sem.run_bind, run_underlying hte, Result.andThen_ok, Instr.slice, hr, run_sizeOf hie, Sem.run_pure, e1, e2, hmg]
          rfl
        · simp only [List.length_nil, Int.natCast_zero, e1, e2]
          exact .i _ _ (.nil _ _)
      | sl f sz rows b off cap V hbS hn hc hf hz g1 g2 =>
        have hcap : m.getD (cap : Int) ≤ (cap : Int) := by
          cases hm2 : m with
          | none => exact Int.le_refl _
          | some mm => have := h5 mm hm2; simp; omega
        have hhm : hb.getD (rows.length : Int) ≤ m.getD (cap : Int) := by
          cases hm2 : m with
          | none => simp; omega
          | some mm => have := h5 mm hm2; simp; omega
        have hr := sliceBounds_run (P := P) (w := w) true rows.length cap vl vh vm l hb m sl sh sm h0 h1 hhm hcap h4
        have hlen : (cutL rows (l.getD 0) (hb.getD (rows.length : Int))).length = (hb.getD (rows.length : Int)).toNat - (l.getD 0).toNat := by
          have := cutL_length rows (l.getD 0) (hb.getD (rows.length : Int)) h0 h1 h2
          omega
        generalize hcut : cutL rows (l.getD 0) (hb.getD (rows.length : Int)) = cut at hlen
        by_cases hmc : (m.getD (cap : Int)).toNat = (l.getD 0).toNat
        · have hce : cut = [] := List.eq_nil_of_length_eq_zero (by omega)
          subst hce
          refine ⟨.slice (some ⟨b, off, none⟩) 0 0, ?_, ?_⟩
          · simp only [Instr.sliceAt, Sem.run_bind, run_underlying hte, Result.andThen_ok, Instr.slice, hr, run_sizeOf hie, Sem.run_pure]
            rw [if_pos hmc, ← hlen, hmc]
            simp
          · exact .i _ _ (.sl full te.size [] b off 0 V hbS (Nat.le_refl _) (Nat.zero_le _) (fun _ => rfl) (by simp) (by simp) (by simp))
        · refine ⟨.slice (some ⟨b, off + (l.getD 0).toNat * te.size, none⟩) cut.length ((m.getD (cap : Int)).toNat - (l.getD 0).toNat), ?_, ?_⟩
          · simp only [Instr.sliceAt, Sem.run_bind, run_underlying hte, Result.andThen_ok, Instr.slice, hr, run_sizeOf hie, Sem.run_pure]
            rw [if_neg hmc, ← hlen]
            simp [addr_add]
          · refine .i _ _ (.sl full te.size cut b (off + (l.getD 0).toNat * te.size) _ (fun i j => V ((l.getD 0).toNat + i) j) hbS (by omega) (by omega) ?_ ?_ ?_ ?_)
            · intro hfl
              rcases hfull hfl with ⟨rfl, rfl, h6⟩ | rfl
              · have := hf rfl
                simp only [Option.getD_none]
                omega
              · simp only [Option.getD_some]
                omega
            · intro r hr'
              rw [← hcut, cutL] at hr'
              exact hz r (List.mem_of_mem_drop (List.mem_of_mem_take hr'))
            · intro i r j x hi hj
              rw [← hcut] at hi
              have := g1 _ r j x (cutL_get hi) hj
              rw [Nat.add_mul] at this
              rw [Nat.add_assoc off]
              exact this
            · intro i r j x hi hj
              rw [← hcut] at hi
              exact g2 _ r j x (cutL_get hi) hj
    split at h
    · obtain ⟨h2, hK⟩ := h
      obtain ⟨q, hq1, hq2⟩ := fin (f && decide (hb.getD (rows.length : Int) = (rows.length : Int))) h2 (by simp) (by simp) (fun hf => by simp only [Bool.and_eq_true, decide_eq_true_eq] at hf; exact .inl ⟨rfl, hf.1, hf.2⟩)
      exact ⟨_, q, hq1, hq2, hK⟩
    · rename_i mm
      obtain ⟨⟨hh', he⟩, h2, h3, hK⟩ := h
      obtain ⟨q, hq1, hq2⟩ := fin (decide (hb.getD (rows.length : Int) = mm)) (by omega) (by rw [he]; simp) (fun mm' hmm => by cases hmm; exact ⟨h2, h3⟩) (fun hf => by simp only [decide_eq_true_eq] at hf; exact .inr (by rw [hf]))
      exact ⟨_, q, hq1, hq2, hK⟩
  · exact h.elim

/-! ### len -/
def lenP (P : Program) (s : St) (t : TypeId) (x : D) (K : D → Prop) : Prop :=
  match tiOf P t with
  | some ti => (match ti.k, x with
    | .str, .i (.lit (.string b)) => K (.int ((sB b).length : Int))
    | .sl _, .i (.sl _ _ rows) => K (.int (rows.length : Int))
    | .sl _, .i (.lit (.slice none 0 0)) => K (.int 0)
    | .sl _, .os l => (match hlook s.hp l with
      | some (.arr _ _ rows) => K (.int (rows.length : Int))
      | _ => False)
    | .arr n _, _ => K (.int (n : Int))
    | _, _ => False)
  | none => False

theorem len_ok {P : Program} {M : Mem} {s : St} {w : World} {a : Act} (hr : Rep M s w a) {t ty : TypeId} {x : D} {K : D → Prop} (h : lenP P s t x K) {v : Value} (hv : R M w x v) :
    ∃ y q, (Builtin.len_ #[t] ty #[v]).run P w = .ok q w ∧ R M w y q ∧ K y := by
  unfold lenP at h
  split at h
  case h_2 => exact h.elim
  rename_i ti hti
  obtain ⟨it, dt, zt, ht⟩ := tiOf_spec hti
  have lit : ∀ n : Int, R M w (.int n) (goInt n) := fun n => .i _ _ (.lit _ trivial)
  split at h
  · rename_i b hk
    have hts := und_str ht hk
    cases hv with
    | i _ _ hv =>
    cases hv
    rw [sB_length] at h
    exact ⟨_, _, by simp [Builtin.len_, run_underlying hts], lit _, h⟩
  · rename_i e f sz rows hk
    have hte := und_sl ht hk
    cases hv with
    | i _ _ hv =>
    cases hv with
    | nil => exact ⟨_, _, by simp [Builtin.len_, run_underlying hte], lit _, h⟩
    | sl => exact ⟨_, _, by simp [Builtin.len_, run_underlying hte], lit _, h⟩
  · rename_i e hk
    have hte := und_sl ht hk
    cases hv with
    | i _ _ hv =>
    cases hv
    exact ⟨_, _, by simp [Builtin.len_, run_underlying hte], lit _, h⟩
  · rename_i e l hk
    have hte := und_sl ht hk
    split at h
    case h_2 => exact h.elim
    rename_i ty' sz rows hds
    cases hv with
    | os _ _ hl hone =>
    have hbb := hr.hp l _ hds
    rw [hl] at hbb
    obtain ⟨xs, ho, _⟩ := hbb
    rcases own_slice ho with ⟨rfl, hn⟩ | ⟨g, c, rfl, _⟩
    · rw [hn] at h
      exact ⟨_, _, by simp [Builtin.len_, run_underlying hte], lit _, h⟩
    · exact ⟨_, _, by simp [Builtin.len_, run_underlying hte], lit _, h⟩
  · rename_i n e hk
    have hte := und_arr ht hk
    exact ⟨_, _, by simp [Builtin.len_, run_underlying hte], lit _, h⟩
  · exact h.elim

end Go.Aw

/-
  What is reckoned of numbers, texts and bools; all operations in one.
-/
namespace Go.Aw

def binP (P : Program) (op : BinOp) (t : TypeId) (x y : D) (K : D → Prop) : Prop :=
  match x, y with
  | .i (.lit (.int k a)), .i (.lit (.int k' b)) => k = k' ∧ (match op with
    | .add => K (.i (.lit (.int k (k.wrap (a + b)))))
    | .sub => K (.i (.lit (.int k (k.wrap (a - b)))))
    | .mul => K (.i (.lit (.int k (k.wrap (a * b)))))
    | .quo => b ≠ 0 ∧ K (.i (.lit (.int k (k.wrap (a.tdiv b)))))
    | .rem => b ≠ 0 ∧ K (.i (.lit (.int k (a.tmod b))))
    | .eql => K (.bool (a == b))
    | .neq => K (.bool (a != b))
    | .lss => K (.bool (decide (a < b)))
    | .leq => K (.bool (decide (a ≤ b)))
    | .gtr => K (.bool (decide (a > b)))
    | .geq => K (.bool (decide (a ≥ b)))
    | _ => False)
  | .i (.lit (.string a)), .i (.lit (.string b)) => (match op with
    | .add => (sB a).length + (sB b).length ≤ 9223372036854775807 ∧ K (.str (sB a ++ sB b))
    | .eql => K (.bool (sB a == sB b))
    | .neq => K (.bool (!(sB a == sB b)))
    | .lss => K (.bool (Op.bytesLess (sB a) (sB b)))
    | .leq => K (.bool (Op.bytesLess (sB a) (sB b) || sB a == sB b))
    | .gtr => K (.bool (!(Op.bytesLess (sB a) (sB b) || sB a == sB b)))
    | .geq => K (.bool (!Op.bytesLess (sB a) (sB b)))
    | _ => False)
  | .i (.lit (.bool a)), .i (.lit (.bool b)) => (match tiOf P t with
    | some ti => ti.k = .bool ∧ (match op with
      | .eql => K (.bool (a == b))
      | .neq => K (.bool (!(a == b)))
      | _ => False)
    | none => False)
  | _, _ => False

theorem eqGuard_ok {P : Program} {w : World} (op : BinOp) (t : TypeId) (x y : Operand) (a b : Value) (h : ∀ cs ds, ¬ (a = .agg cs ∧ b = .agg ds)) (h2 : ¬ (a = .nilIface ∧ b = .nilIface)) : (eqGuard op t x y a b).run P w = .ok () w := by
  have key : ∀ op : BinOp, (op = .eql ∨ op = .neq) → (eqGuard op t x y a b).run P w = .ok () w := by
    rintro op (rfl | rfl)
    all_goals
      show Sem.run P (match a, b with | .nilIface, .nilIface => _ | .agg _, .agg _ => _ | _, _ => (pure () : Sem Unit)) w = _
      split
      · exact absurd ⟨rfl, rfl⟩ h2
      · exact absurd ⟨rfl, rfl⟩ (h _ _)
      · rfl
  cases op <;> first | rfl | exact key _ (.inl rfl) | exact key _ (.inr rfl)

theorem bin_ok {P : Program} {M : Mem} {w : World} {op : BinOp} {t : TypeId} {x y : D} {K : D → Prop} (h : binP P op t x y K) {v u : Value} (hv : R M w x v) (hu : R M w y u) (ox oy : Operand) :
    ∃ z q, (do eqGuard op t ox oy v u; binOp op t v u : Sem Value).run P w = .ok q w ∧ R M w z q ∧ K z := by
  have lit : ∀ v, litOk v → R M w (.i (.lit v)) v := fun v h => .i _ _ (.lit _ h)
  unfold binP at h
  split at h
  · rename_i k a k' b
    obtain ⟨rfl, h⟩ := h
    cases hv with
    | i _ _ hv =>
    cases hv
    cases hu with
    | i _ _ hu =>
    cases hu
    rw [Sem.run_bind, eqGuard_ok op t ox oy _ _ (by simp) (by simp), Result.andThen_ok]
    cases op <;> simp only at h
    case add => exact ⟨_, .int k (k.wrap (a + b)), by simp [binOp, Op.intArith], lit _ trivial, h⟩
    case sub => exact ⟨_, .int k (k.wrap (a - b)), by simp [binOp, Op.intArith], lit _ trivial, h⟩
    case mul => exact ⟨_, .int k (k.wrap (a * b)), by simp [binOp, Op.intArith], lit _ trivial, h⟩
    case quo => exact ⟨_, .int k (k.wrap (a.tdiv b)), by simp [binOp, Op.intDiv, h.1], lit _ trivial, h.2⟩
    case rem => exact ⟨_, .int k (a.tmod b), by simp [binOp, Op.intDiv, h.1], lit _ trivial, h.2⟩
    case eql => exact ⟨_, .bool (a == b), by simp only [binOp, Op.intCmp, ne_eq, not_true_eq_false, if_false, Sem.run_pure], lit _ trivial, h⟩
    case neq => exact ⟨_, .bool (a != b), by simp only [binOp, Op.intCmp, ne_eq, not_true_eq_false, if_false, Sem.run_pure], lit _ trivial, h⟩
    case lss => exact ⟨_, .bool (decide (a < b)), by simp only [binOp, Op.intCmp, ne_eq, not_true_eq_false, if_false, Sem.run_pure], lit _ trivial, h⟩
    case leq => exact ⟨_, .bool (decide (a ≤ b)), by simp only [binOp, Op.intCmp, ne_eq, not_true_eq_false, if_false, Sem.run_pure], lit _ trivial, h⟩
    case gtr => exact ⟨_, .bool (decide (a > b)), by simp only [binOp, Op.intCmp, ne_eq, not_true_eq_false, if_false, Sem.run_pure], lit _ trivial, h⟩
    case geq => exact ⟨_, .bool (decide (a ≥ b)), by simp only [binOp, Op.intCmp, ne_eq, not_true_eq_false, if_false, Sem.run_pure], lit _ trivial, h⟩
  · rename_i a b
    cases hv with
    | i _ _ hv =>
    cases hv
    cases hu with
    | i _ _ hu =>
    cases hu
    rw [Sem.run_bind, eqGuard_ok op t ox oy _ _ (by simp) (by simp), Result.andThen_ok]
    have e : ∀ c : ByteArray, c.toList = sB c := fun c => Lib.toList_data c
    cases op <;> simp only at h
    case add =>
      obtain ⟨h1, h2⟩ := h
      rw [sB_length, sB_length] at h1
      refine ⟨_, .string (a ++ b), ?_, ?_, h2⟩
      · simp only [binOp, Op.stringOp]
        rw [if_neg (by simp only [IntKind.max]; show ¬ (((a.size + b.size : Nat) : Int) > 9223372036854775807); omega)]
        rfl
      · have : a ++ b = ⟨(sB a ++ sB b).toArray⟩ := by
          apply ByteArray.ext
          apply Array.ext'
          simp [sB]
        rw [this]
        refine lit _ ?_
        show (ByteArray.mk (List.toArray _)).size ≤ maxLen
        simp only [ByteArray.size, List.size_toArray, List.length_append, sB_length, maxLen]
        exact h1
    case eql => exact ⟨_, .bool (sB a == sB b), by simp only [binOp, Op.stringOp, Sem.run_pure, e], lit _ trivial, h⟩
    case neq => exact ⟨_, .bool (!(sB a == sB b)), by simp only [binOp, Op.stringOp, Sem.run_pure, e], lit _ trivial, h⟩
    case lss => exact ⟨_, .bool (Op.bytesLess (sB a) (sB b)), by simp only [binOp, Op.stringOp, Sem.run_pure, e], lit _ trivial, h⟩
    case leq => exact ⟨_, .bool (Op.bytesLess (sB a) (sB b) || sB a == sB b), by simp only [binOp, Op.stringOp, Sem.run_pure, e], lit _ trivial, h⟩
    case gtr => exact ⟨_, .bool (!(Op.bytesLess (sB a) (sB b) || sB a == sB b)), by simp only [binOp, Op.stringOp, Sem.run_pure, e], lit _ trivial, h⟩
    case geq => exact ⟨_, .bool (!Op.bytesLess (sB a) (sB b)), by simp only [binOp, Op.stringOp, Sem.run_pure, e], lit _ trivial, h⟩
  · rename_i a b
    cases hv with
    | i _ _ hv =>
    cases hv
    cases hu with
    | i _ _ hu =>
    cases hu
    rw [Sem.run_bind, eqGuard_ok op t ox oy _ _ (by simp) (by simp), Result.andThen_ok]
    split at h
    case h_2 => exact h.elim
    rename_i ti hti
    obtain ⟨it, dt, zt, ht⟩ := tiOf_spec hti
    obtain ⟨hk, h⟩ := h
    have hb : P.underlying t = some .bool := by
      rw [ht.und]
      have := ht.k
      rw [hk] at this
      cases dt <;> simp [kOf] at this
      rfl
    cases op <;> simp only at h
    case eql => exact ⟨_, _, run_eql_bool w t a b hb, lit _ trivial, h⟩
    case neq => exact ⟨_, _, run_neq_bool w t a b hb, lit _ trivial, h⟩
  · exact h.elim

def unP (op : UnOp) (x : D) (K : D → Prop) : Prop :=
  match op, x with
  | .not, .i (.lit (.bool b)) => K (.bool (!b))
  | .neg, .i (.lit (.int k n)) => K (.i (.lit (.int k (k.wrap (0 - n)))))
  | _, _ => False

theorem un_ok {P : Program} {M : Mem} {w : World} {op : UnOp} {x : D} {K : D → Prop} (h : unP op x K) {v : Value} (hv : R M w x v) : ∃ z q, (Op.unary op v).run P w = .ok q w ∧ R M w z q ∧ K z := by
  unfold unP at h
  split at h
  · cases hv with
    | i _ _ hv =>
    cases hv
    exact ⟨_, _, rfl, .i _ _ (.lit _ trivial), h⟩
  · cases hv with
    | i _ _ hv =>
    cases hv
    rename_i _ _ k n _
    exact ⟨_, .int k (k.wrap (0 - n)), by simp only [Op.unary, Op.intArith, Sem.run_pure], .i _ _ (.lit _ trivial), h⟩
  · exact h.elim

def convP (P : Program) (src dst : TypeId) (x : D) (K : D → Prop) : Prop :=
  match tiOf P src, tiOf P dst, x with
  | some _, some td, .i (.lit (.int _ n)) => (match td.k with
    | .int k => K (.i (.lit (.int k (k.wrap n))))
    | .str => (Utf8.encode n).size ≤ 9223372036854775807 ∧ K (.str (sB (Utf8.encode n)))
    | _ => False)
  | some _, some td, .i (.lit (.string s)) => td.k = .str ∧ K (.i (.lit (.string s)))
  | _, _, _ => False

theorem conv_ok {P : Program} {M : Mem} {w : World} {src dst : TypeId} {x : D} {K : D → Prop} (h : convP P src dst x K) {v : Value} (hv : R M w x v) : ∃ z q, (convert src dst v).run P w = .ok q w ∧ R M w z q ∧ K z := by
  unfold convP at h
  split at h
  · rename_i ts td k n hts htd
    obtain ⟨is, ds, zs, hs⟩ := tiOf_spec hts
    obtain ⟨id, dd, zd, hd⟩ := tiOf_spec htd
    cases hv with
    | i _ _ hv =>
    cases hv
    have hk := hd.k
    split at h
    · rename_i k' hk'
      rw [hk'] at hk
      cases dd <;> simp [kOf] at hk
      subst hk
      have hu := hd.und
      refine ⟨_, .int k' (k'.wrap n), ?_, .i _ _ (.lit _ trivial), h⟩
      simp only [convert, Sem.run_bind, run_underlying hs.und, run_underlying hu, Result.andThen_ok]
      cases ds <;> simp [Conv.intToInt]
    · rename_i hk'
      rw [hk'] at hk
      cases dd <;> simp [kOf] at hk
      have hu := hd.und
      refine ⟨_, .string (Utf8.encode n), ?_, ?_, h.2⟩
      · simp only [convert, Sem.run_bind, run_underlying hs.und, run_underlying hu, Result.andThen_ok]
        cases ds <;> simp [Conv.intToString]
      · show R M w (.i (.lit (.string ⟨(sB (Utf8.encode n)).toArray⟩))) _
        rw [mk_sB]; exact .i _ _ (.lit _ (by simpa [litOk, maxLen] using h.1))
    · exact h.elim
  · rename_i ts td s hts htd
    obtain ⟨is, ds, zs, hs⟩ := tiOf_spec hts
    obtain ⟨id, dd, zd, hd⟩ := tiOf_spec htd
    obtain ⟨hk', h⟩ := h
    cases hv with
    | i _ _ hv =>
    have hk := hd.k
    rw [hk'] at hk
    cases dd <;> simp [kOf] at hk
    have hu := hd.und
    have hvv := hv
    cases hv
    refine ⟨_, _, ?_, .i _ _ hvv, h⟩
    simp only [convert, Sem.run_bind, run_underlying hs.und, run_underlying hu, Result.andThen_ok]
    cases ds <;> rfl
  · exact h.elim

def pickD (t : Bool) (x y : D) : D :=
  match x, y with
  | .i (.lit (.bool a)), .i (.lit (.bool b)) => .bool (cond t a b)
  | x, y => cond t x y

def mkIfc (t : TypeId) : D → D
  | .i x => .i (.ifc t x)
  | d => .ifc t d

/-- Does the program have a body for this function, of the usual kind? -/
def enters (P : Program) (g : FuncId) : Bool :=
  match P.funcs[g]? with
  | some fn => fn.body.isSome && !(fn.name == "runtime.NumGoroutine")
  | none => false

/-- The call of function g comes to a result, and a state, of which K holds; or to a panic of which Kp holds. -/
def CallD (P : Program) (g : FuncId) (args : List D) (s : St) (K Kp : D → St → Prop) : Prop :=
  enters P g = true ∧ ∀ M w a, Rep M s w a → ∀ vs : Array Value, vs.size = args.length → (∀ i d, args[i]? = some d → R M w d (vs.getD i undef)) →
    Calls P g vs w fun e w' => ∃ M' s' d v, Rep M' s' w' a ∧ Ext M w M' w' ∧ R M' w' d v ∧ ((e = .returned v ∧ K d s') ∨ (e = .panicked [{ v := v, recovered := false }] ∧ Kp d s'))

def callP (P : Program) (f : D) (args : List D) (s : St) (K Kp : D → St → Prop) : Prop :=
  match f with
  | .fn (.func g) first caps => CallD P g (first ++ args ++ caps) s K Kp
  | _ => False

def opP (P : Program) (s : St) (k : Nat) (op : Op) (K Kp : D → St → Prop) : Prop :=
  match op with
  | .move x => K (valD s x) s
  | .assign x => K (valD s x) s
  | .pick c x y => (match valD s c with
    | .i (.lit (.bool t)) => K (pickD t (valD s x) (valD s y)) s
    | _ => False)
  | .alloc t => (match tiOf P t with
    | some ti => K (.pt (.l k) 0) { s with hp := hupd s.hp (.l k) (.cells t (ti.z.map zD)), nx := k + 1 }
    | none => False)
  | .box t x => okX (valD s x) = true ∧ K (.pt (.l k) 0) { s with hp := hupd s.hp (.l k) (.cells t (cellsD (valD s x))), nx := k + 1 }
  | .build t ps => ps.toList ≠ [] ∧ buildP P t (ps.toList.map fun p => (p.1, valD s p.2)) fun d => K d s
  | .buildSlice t n ps => buildSliceP P s k t n (ps.toList.map fun p => (p.1, valD s p.2)) K
  | .load t x => (match tiOf P t with
    | some ti => loadP s ti (valD s x) fun d => K d s
    | none => False)
  | .store t x y => (match tiOf P t with
    | some ti => storeP s ti (valD s x) (valD s y) (K .any)
    | none => False)
  | .nilCheck x => (match valD s x with
    | .pt l o => K (.pt l o) s
    | .el r o => K (.el r o) s
    | .ea l sz i o => K (.ea l sz i o) s
    | .fn (.func g) a b => K (.fn (.func g) a b) s
    | .yl l => K (.yl l) s
    | _ => False)
  | .binOp op t x y _ => binP P op t (valD s x) (valD s y) fun d => K d s
  | .unOp op _ x => unP op (valD s x) fun d => K d s
  | .convert src dst x => convP P src dst (valD s x) fun d => K d s
  | .makeInterface t x => (match tiOf P t with
    | some ti => ti.k ≠ .ifc ∧ K (mkIfc t (valD s x)) s
    | none => False)
  | .makeFunc fn first caps => K (.fn fn (first.toList.map (valD s)) (caps.toList.map (valD s))) s
  | .makeSlice t l c => makeP P s k t (valD s l) (valD s c) K
  | .slice t x lo hi mx => sliceP P t (valD s x) (lo.map (valD s)) (hi.map (valD s)) (mx.map (valD s)) fun d => K d s
  | .fieldAddr t x f => fieldAddrP P t (valD s x) f fun d => K d s
  | .field t x f => fieldP P t (valD s x) f fun d => K d s
  | .indexAddr t x ix => indexAddrP P s t (valD s x) (valD s ix) fun d => K d s
  | .index t x ix => indexP P t (valD s x) (valD s ix) fun d => K d s
  | .extract x i => (match valD s x with
    | .tup l => (match l[i]? with
      | some d => K d s
      | none => False)
    | _ => False)
  | .call c => (match c.callee with
    | .builtin .len => (match c.argTypes.toList, c.args.toList with
      | [t], [x] => lenP P s t (valD s x) fun d => K d s
      | _, _ => False)
    | .builtin .append => (match c.argTypes.toList, c.args.toList with
      | [t, t'], [x, y] => t = t' ∧ appendP P s k t (valD s x) (valD s y) K
      | _, _ => False)
    | .builtin .max => (match c.args.toList with
      | [x, y] => (match valD s x, valD s y with
        | .i (.lit (.int k a)), .i (.lit (.int _ b)) => K (.i (.lit (.int k (if b > a then b else a)))) s
        | _, _ => False)
      | _ => False)
    | .builtin .min => (match c.args.toList with
      | [x, y] => (match valD s x, valD s y with
        | .i (.lit (.int k a)), .i (.lit (.int _ b)) => K (.i (.lit (.int k (if b < a then b else a)))) s
        | _, _ => False)
      | _ => False)
    | .value f => callP P (valD s f) (c.args.toList.map (valD s)) s K Kp
    | _ => False)
  | _ => False

end Go.Aw

/-
  Every operation is sound; regions of code.
-/
namespace Go.Aw

theorem opt_R {M : Mem} {s : St} {w : World} {a : Act} (hr : Rep M s w a) (x : Option Operand) : (∀ d, x.map (valD s) = some d → ∃ u, x.map a.eval = some u ∧ R M w d u) ∧ (x.map (valD s) = none → x.map a.eval = none) := by
  cases x with
  | none => exact ⟨fun d h => by simp at h, fun _ => rfl⟩
  | some y => exact ⟨fun d h => by simp at h; subst h; exact ⟨_, rfl, hr.val y⟩, fun h => by simp at h⟩

theorem parts_R {M : Mem} {s : St} {w : World} {a : Act} (hr : Rep M s w a) (ps : Array (Nat × Operand)) : (ps.toList.map fun p => (p.1, valD s p.2)).length = (ps.map fun p => (p.1, a.eval p.2)).size ∧
    ∀ (j : Nat) p q, (ps.toList.map fun p => (p.1, valD s p.2))[j]? = some p → (ps.map fun p => (p.1, a.eval p.2))[j]? = some q → q.1 = p.1 ∧ R M w p.2 q.2 := by
  refine ⟨by simp, fun j p q hp hq => ?_⟩
  simp only [List.getElem?_map, Array.getElem?_toList, Option.map_eq_some_iff] at hp
  simp only [Array.getElem?_map, Option.map_eq_some_iff] at hq
  obtain ⟨y, hy, rfl⟩ := hp
  obtain ⟨z, hz, rfl⟩ := hq
  rw [hy] at hz
  cases hz
  exact ⟨rfl, hr.val _⟩

theorem fns_R {M : Mem} {s : St} {w : World} {a : Act} (hr : Rep M s w a) (xs : Array Operand) : (xs.map a.eval).size = (xs.toList.map (valD s)).length ∧ ∀ i d, (xs.toList.map (valD s))[i]? = some d → R M w d ((xs.map a.eval).getD i undef) := by
  refine ⟨by simp, fun i d h => ?_⟩
  simp only [List.getElem?_map, Array.getElem?_toList, Option.map_eq_some_iff] at h
  obtain ⟨x, hx, rfl⟩ := h
  rw [show (xs.map a.eval).getD i undef = a.eval x by simp [Array.getD_eq_getD_getElem?, hx]]
  exact hr.val x

theorem callFunc_run {P : Program} {g : FuncId} (h : enters P g = true) (args : Array Value) (w : World) : (callFunc g args).run P w = .ok (.enter g args) w := by
  unfold enters at h
  split at h
  · rename_i fn hfn
    simp only [Bool.and_eq_true, Bool.not_eq_true'] at h
    obtain ⟨hb, hn⟩ := h
    unfold callFunc
    simp only [Sem.run_bind, run_program, Result.andThen_ok, hfn]
    rw [if_neg (by rw [hn]; simp)]
    have : fn.body.isNone = false := by cases hb2 : fn.body <;> simp_all
    simp [this]
  · cases h

theorem fenced_WF (r : Option Nat) (P : Program) (m : Machine) : m.fenced P (WF r) := by
  intro g _
  refine ⟨fun h => ?_, Or.inl trivial, fun _ _ => trivial, fun _ h => ?_⟩
  · simp [WF] at h
  · simp [WF] at h

theorem callsIn_WF {r : Option Nat} {n : Nat} {P : Program} {f : FuncId} {args : Array Value} {w : World} {R : Ending → World → Prop} (h : Calls P f args w R) : CallsIn (WF r) n P f args w R := by
  refine ⟨trivial, fun cs _ => ?_⟩
  obtain ⟨e, w', fr, h1, h2, h3⟩ := h cs
  refine ⟨e, w', fr, h1, ?_, h3⟩
  cases e with
  | returned v => exact (StepsIn.of_steps h2).mono fun m _ => fenced_WF r P m
  | panicked c => exact (StepsIn.of_steps h2).mono fun m _ => fenced_WF r P m
  | outgrown => exact h2

theorem R.lit {M : Mem} {w : World} {v u : Value} (h : R M w (.i (.lit v)) u) : u = v := by
  cases h with
  | i _ _ h => cases h; rfl

/-! ### Regions -/
def guardP (gd : Nat → Option Tmp) (s : St) (g : Option (Nat × Bool)) (A B : Prop) : Prop :=
  match g with
  | none => A
  | some (j, want) => (match gd j with
    | some t => (match look s.tm t with
      | some (.i (.lit (.bool b))) => if (b == want) = true then A else B
      | some .un => B
      | _ => False)
    | none => False)

/-- A bool on which later operations hang is taken to be the one, and the other. -/
def splitP (g : Bool) (d : D) (A : D → Prop) : Prop :=
  match g, d with
  | true, .i (.lit (.bool b)) => (b = true → A (.i (.lit (.bool true)))) ∧ (b = false → A (.i (.lit (.bool false))))
  | _, d => A d

def isG (ops : List Oper) (i : Nat) : Bool := ops.any fun o => match o.guard with | some (j, _) => i == j | none => false

def execR (P : Program) (gd : Nat → Option Tmp) (ig : Nat → Bool) : Nat → List Oper → St → (St → Prop) → (D → St → Prop) → Prop
  | _, [], s, K, _ => K s
  | i, o :: rest, s, K, Kp => guardP gd s o.guard (opP P s s.nx o.op (fun d s' => s'.room o.dst ∧ splitP (ig i) d fun d' => execR P gd ig (i + 1) rest (s'.put o.dst d') K Kp) Kp)
      (s.room o.dst ∧ execR P gd ig (i + 1) rest (s.put o.dst .un) K Kp)

end Go.Aw

/-
  Functions: their contracts, how they are entered and left, how they are called.
-/
namespace Go.Aw

/-! ### Results -/
def resP (P : Program) (s : St) : List ResultVar → (List D → Prop) → Prop
  | [], K => K []
  | .tmp t :: r, K => resP P s r fun l => K (valD s (.tmp t) :: l)
  | .cell t ty :: r, K => (match tiOf P ty with
    | some ti => loadP s ti (valD s (.tmp t)) fun d => resP P s r fun l => K (d :: l)
    | none => False)

def packD : List D → D
  | [d] => d
  | l => .tup l

theorem loadAt_asAddr {P : Program} {t : TypeId} {v u : Value} {w : World} (h : (Instr.loadAt t v).run P w = .ok u w) : (do loadVar t (← asAddr v) : Sem Value).run P w = .ok u w := by
  unfold Instr.loadAt at h
  cases v <;> simp [Instr.sureAddr] at h
  rename_i a
  cases a with
  | none => simp at h
  | some a => simpa [asAddr] using h

theorem resP_ok {P : Program} {M : Mem} {s : St} {w : World} {a : Act} (hr : Rep M s w a) : ∀ (l : List ResultVar) (K : List D → Prop), resP P s l K →
    ∃ ds vs, (l.mapM fun (x : ResultVar) => match x with | .tmp t => pure (a.tmps.getD t undef) | .cell p t => (do loadVar t (← asAddr (a.tmps.getD p undef)) : Sem Value)).run P w = .ok vs w ∧
      vs.length = ds.length ∧ (∀ i d, ds[i]? = some d → R M w d (vs.getD i undef)) ∧ K ds
  | [], K, h => ⟨[], [], by simp, rfl, by simp, h⟩
  | .tmp t :: r, K, h => by
    simp only [resP] at h
    obtain ⟨ds, vs, h1, h2, h3, h4⟩ := resP_ok hr r _ h
    refine ⟨_, a.tmps.getD t undef :: vs, ?_, by simp [h2], fun i d hi => ?_, h4⟩
    · simp only [List.mapM_cons, Sem.run_bind, Sem.run_pure, Result.andThen_ok, h1]
    · cases i with
      | zero => simp at hi; subst hi; exact hr.val (.tmp t)
      | succ i => exact h3 i d (by simpa using hi)
  | .cell p ty :: r, K, h => by
    simp only [resP] at h
    split at h
    case h_2 => exact h.elim
    rename_i ti hti
    obtain ⟨it, dt, zt, ht⟩ := tiOf_spec hti
    obtain ⟨y, u, e1, e2, e3⟩ := load_ok ht hr h (hr.val (.tmp p))
    obtain ⟨ds, vs, h1, h2, h3, h4⟩ := resP_ok hr r _ e3
    have e1' := loadAt_asAddr e1
    refine ⟨_, u :: vs, ?_, by simp [h2], fun i d hi => ?_, h4⟩
    · simp only [List.mapM_cons]
      rw [Sem.run_bind]
      have : (do loadVar ty (← asAddr (a.tmps.getD p undef)) : Sem Value).run P w = .ok u w := e1'
      rw [this]
      simp only [Result.andThen_ok, Sem.run_bind, h1, Sem.run_pure]
    · cases i with
      | zero => simp at hi; subst hi; exact e2
      | succ i => exact h3 i d (by simpa using hi)

theorem results_ok {P : Program} {M : Mem} {s : St} {w : World} {a : Act} (hr : Rep M s w a) (fn : Func) (K : D → Prop) (h : resP P s fn.results.toList fun l => K (packD l)) :
    ∃ d v, (results fn a.tmps).run P w = .ok v w ∧ R M w d v ∧ K d := by
  obtain ⟨ds, vs, h1, h2, h3, h4⟩ := resP_ok hr _ _ h
  have hm : (fn.results.mapM fun (x : ResultVar) => match x with | .tmp t => pure (a.tmps.getD t undef) | .cell p t => (do loadVar t (← asAddr (a.tmps.getD p undef)) : Sem Value)).run P w = .ok vs.toArray w := by
    rw [Array.mapM_eq_mapM_toList, Sem.run_map, h1]
    rfl
  refine ⟨packD ds, if h : vs.toArray.size = 1 then vs.toArray[0] else .tuple vs.toArray, ?_, ?_, h4⟩
  · unfold results
    rw [Sem.run_bind]
    exact congrArg (fun r => Result.andThen r fun (a : Array Value) w' => Sem.run P (pure (if h : a.size = 1 then a[0] else Value.tuple a)) w') hm
  · match ds, vs, h2, h3 with
    | [d], [v], _, h3 => simpa [packD] using h3 0 d rfl
    | [], [], _, _ => exact .tup _ _ rfl (by simp)
    | d :: e :: r, v :: u :: q, h2, h3 =>
      simp only [packD]
      rw [dif_neg (by simp)]
      exact .tup _ _ (by simpa using h2) (fun i x hi => by
        have := h3 i x hi
        rwa [show (v :: u :: q).toArray.getD i undef = (v :: u :: q).getD i undef by simp [Array.getD_eq_getD_getElem?, List.getD_eq_getElem?_getD]])

/-! ### Entering -/
def argsT : Nat → List D → List (Nat × D)
  | _, [] => []
  | k, d :: r => (k, d) :: argsT (k + 1) r

/-- How a function's body begins: its arguments, and what memory it was handed. -/
def start (fn : Func) (args : List D) (hp : List (Loc × Blk)) : St := { n := fn.ntmps, tm := argsT 0 args, hp := hp, nx := 0, df := [] }

/-- What is asked at the end of a function's body. -/
def leaves (P : Program) (fn : Func) (K Kp : D → St → Prop) : AExit → St → Prop
  | .normal, s => s.df = [] ∧ resP P s fn.results.toList fun l => K (packD l) s
  | .ret, s => s.df = [] ∧ resP P s fn.results.toList fun l => K (packD l) s
  | .panic d, s => s.df = [] ∧ Kp d s
  | _, _ => False

theorem df_nil {M : Mem} {s : St} {w : World} {a : Act} (hr : Rep M s w a) (h : s.df = []) : a.defers = [] := by
  obtain ⟨bs, h1, h2, _⟩ := hr.df
  rw [h] at h2
  have : bs = [] := List.eq_nil_of_length_eq_zero (by simpa using h2)
  rw [h1, this]
  rfl

/-! ### Freezing -/
mutual
/-- What a value is when all that the state owns is frozen. -/
def frz (h : Loc → Option Blk) : D → D
  | .i x => .i x
  | .agg ds => .agg (frzL h ds)
  | .os l => (match h l with
    | some (.arr _ sz rows) => .i (.sl false sz rows)
    | _ => .any)
  | .fn f a b => .fn f (frzL h a) (frzL h b)
  | .ifc t d => .ifc t (frz h d)
  | .tup ds => .tup (frzL h ds)
  | .el r o => .el r o
  | .un => .un
  | _ => .any
def frzL (h : Loc → Option Blk) : List D → List D
  | [] => []
  | d :: r => frz h d :: frzL h r
end

theorem frzL_get (h : Loc → Option Blk) : ∀ (ds : List D) (i : Nat), (frzL h ds)[i]? = (ds[i]?).map (frz h)
  | [], i => by simp [frzL]
  | d :: r, 0 => by simp [frzL]
  | d :: r, i + 1 => by simp [frzL, frzL_get h r i]

theorem frzL_length (h : Loc → Option Blk) : ∀ ds : List D, (frzL h ds).length = ds.length
  | [] => rfl
  | d :: r => by simp [frzL, frzL_length h r]

/-- A row that is owned, as a slice that does not change any more. -/
theorem RI_of_own {M : Mem} {w : World} {S' : Nat → Prop} (hS : ∀ b, M.S b → S' b) {ty : TypeId} {sz : Nat} {rows : List (List I)} {v : Value} (h : RB M w (.arr ty sz rows) (.own v)) (hb : ∀ b, v.ownBlock = some b → S' b) : RI w S' (.sl false sz rows) v := by
  obtain ⟨xs, ho, hz, hx⟩ := h
  rcases ho.2 with ⟨rfl, hn⟩ | ⟨g, cap, cur, rfl, _, hg, hnc, hcm, hcs, htk⟩
  · have : rows = [] := List.eq_nil_of_length_eq_zero hn
    subst this
    exact .nil _ _
  · refine .sl false sz rows g 0 cap (fun i j => xs.getD (i * sz + j) undef) (hb g rfl) hnc hcm (by simp) hz (fun i r j x hi hj => ?_) (fun i r j x hi hj => ?_)
    · obtain ⟨u, a1, a2, _⟩ := hx i r j x hi hj
      have hc := ho.cells (g := g) rfl _ _ a1
      rw [addr_add, Nat.zero_add] at hc
      rw [List.getD_eq_getElem?_getD, a1, Option.getD_some, Nat.zero_add]
      exact ⟨hc, a2⟩
    · obtain ⟨u, a1, _, a3⟩ := hx i r j x hi hj
      rw [List.getD_eq_getElem?_getD, a1, Option.getD_some]
      exact a3.mono (fun _ _ => rfl) hS

theorem R.frz {M M' : Mem} {w : World} {h : Loc → Option Blk} (hS : ∀ b, M.S b → M'.S b) (hh : ∀ l b, h l = some b → RB M w b (M.μ l) ∧ ∀ n, (M.μ l).has n → M'.S n) {d : D} {v : Value} (hd : R M w d v) : R M' w (frz h d) v := by
  induction hd with
  | i x v hx => exact .i x v (hx.mono (fun _ _ => rfl) hS)
  | agg l cs hs h1 h2 ih =>
    refine .agg _ cs (by rw [hs, frzL_length]) (fun i d hi => ?_) (fun i d hi => ?_)
    · rw [frzL_get, Option.map_eq_some_iff] at hi
      obtain ⟨d', hd', rfl⟩ := hi
      exact h1 i d' hd'
    · rw [frzL_get, Option.map_eq_some_iff] at hi
      obtain ⟨d', hd', rfl⟩ := hi
      exact ih i d' hd'
  | pt => exact .any _
  | el row o b off V hb h1 h2 => exact .el row o b off V (hS _ hb) h1 (fun j x hj => (h2 j x hj).mono (fun _ _ => rfl) hS)
  | ea => exact .any _
  | os l v hl hv =>
    simp only [Go.Aw.frz]
    split
    · rename_i ty sz rows hls
      obtain ⟨g1, g2⟩ := hh l _ hls
      rw [hl] at g1 g2
      exact .i _ _ (RI_of_own hS g1 (fun b hb => g2 b hb))
    · exact .any _
  | fn f first caps v1 v2 h1 h2 r1 r2 ih1 ih2 =>
    refine .fn f _ _ v1 v2 (by rw [h1, frzL_length]) (by rw [h2, frzL_length]) (fun i d hi => ?_) (fun i d hi => ?_)
    · rw [frzL_get, Option.map_eq_some_iff] at hi
      obtain ⟨d', hd', rfl⟩ := hi
      exact ih1 i d' hd'
    · rw [frzL_get, Option.map_eq_some_iff] at hi
      obtain ⟨d', hd', rfl⟩ := hi
      exact ih2 i d' hd'
  | yl => exact .any _
  | ifc t d v _ ih => exact .ifc t _ v ih
  | tup l vs hs h2 ih =>
    refine .tup _ vs (by rw [hs, frzL_length]) (fun i d hi => ?_)
    rw [frzL_get, Option.map_eq_some_iff] at hi
    obtain ⟨d', hd', rfl⟩ := hi
    exact ih i d' hd'
  | un => exact .un
  | any v => exact .any v

/-! ### Contracts -/
def onlyS (S : Nat → Prop) : Mem := { μ := fun _ => .dead, S := S }

/-- **A pure function: of arguments that do not change it tells a result that does not, and leaves memory as it is.** -/
def FnF (P : Program) (g : FuncId) (args : List D) (d : D) : Prop :=
  enters P g = true ∧ ∀ (S : Nat → Prop) (w : World) (vs : Array Value), (∀ b, S b → b < w.heap.size) → vs.size = args.length → (∀ i e, args[i]? = some e → R (onlyS S) w e (vs.getD i undef)) →
    Calls P g vs w fun e w' => ∃ v S', e = .returned v ∧ R (onlyS S') w' d v ∧ RowKit.Below w.heap.size w w' ∧ (∀ b, S b → S' b) ∧ (∀ b, S' b → (S b ∨ w.heap.size ≤ b) ∧ b < w'.heap.size)

def D.isI : D → Bool
  | .i _ => true
  | _ => false

/-- Leads to nothing that may change. -/
def D.free : D → Bool
  | .i _ => true
  | .agg l => l.all D.isI
  | .fn _ a b => a.isEmpty && b.isEmpty
  | _ => false

theorem R.free {M : Mem} {w : World} {d : D} {v : Value} (h : R M w d v) (hd : d.free = true) : R (onlyS M.S) w d v := by
  cases h with
  | i x v h => exact .i x v h
  | agg l cs hs h1 h =>
    refine .agg l cs hs h1 (fun i e hi => ?_)
    have := List.all_eq_true.1 hd e (List.mem_of_getElem? hi)
    have hr := h i e hi
    cases e <;> simp [D.isI] at this
    generalize cs.getD i undef = u at hr
    cases hr with
    | i _ _ hx => exact .i _ _ hx
  | fn f first caps v1 v2 h1 h2 r1 r2 =>
    simp only [D.free, Bool.and_eq_true, List.isEmpty_iff] at hd
    obtain ⟨rfl, rfl⟩ := hd
    exact .fn f [] [] v1 v2 h1 h2 (by simp) (by simp)
  | _ => simp [D.free] at hd

/-- More that does not change is known; memory has grown. -/
theorem Rep.grow {M : Mem} {s : St} {w w' : World} {a : Act} (h : Rep M s w a) (S' : Nat → Prop) (hb : RowKit.Below w.heap.size w w') (hS : ∀ b, M.S b → S' b) (hn : ∀ b, S' b → (M.S b ∨ w.heap.size ≤ b) ∧ b < w'.heap.size) :
    Rep { M with S := S' } s w' a ∧ Ext M w { M with S := S' } w' := by
  have hw : ∀ b, M.S b → w'.heap[b]? = w.heap[b]? := fun b x => hb.block b (h.inv.slt b x)
  have hS2 : ∀ b, M.S b → ({ M with S := S' } : Mem).S b := hS
  refine ⟨⟨⟨h.inv.inj, fun l b x => Nat.lt_of_lt_of_le (h.inv.lt l b x) hb.size, fun b x l y => ?_, fun b x => (hn b x).2⟩, h.sz, fun t d hd => (h.tm t d hd).mono hw hS2 (fun _ _ => rfl), fun l c hl => ?_, h.nx, h.df⟩,
    ⟨hb.os, hb.tape, hb.output, hb.size, fun b x _ => hb.block b x, hS, fun l b x => .inl ⟨l, x⟩, fun b x => (hn b x).1.elim .inl (fun y => .inr (.inr y))⟩⟩
  · rcases (hn b x).1 with z | z
    · exact h.inv.sep b z l y
    · have := h.inv.lt l b y; omega
  · have := RB.mono (M' := { M with S := S' }) (w' := w') hw (fun b x => hb.block b (h.inv.lt _ _ x)) hS2 id (fun d v hd => hd.mono hw hS2 (fun _ _ => rfl)) (h.hp l c hl)
    cases c <;> simpa using this

end Go.Aw
