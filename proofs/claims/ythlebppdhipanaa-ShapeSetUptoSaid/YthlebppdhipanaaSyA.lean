/-
  Symbolic states; code upon them.
-/
import Derived.Test.YthlebppdhipanaaEvc
set_option linter.all false
namespace Go.Ev
open Go.Aw (WF wpIn_loop_rel enters callFunc_run callsIn_WF)

/-! ### States -/
def lk {α : Type} : List (Nat × α) → Nat → Option α
  | [], _ => none
  | (k, x) :: r, t => if k = t then some x else lk r t

def up {α : Type} : List (Nat × α) → Nat → α → List (Nat × α)
  | [], t, x => [(t, x)]
  | (k, y) :: r, t, x => if k = t then (t, x) :: r else (k, y) :: up r t x

theorem lk_up {α : Type} (l : List (Nat × α)) (t : Nat) (x : α) (u : Nat) : lk (up l t x) u = if t = u then some x else lk l u := by
  induction l with
  | nil => simp [up, lk]
  | cons p r ih =>
    obtain ⟨k, y⟩ := p
    simp only [up]
    by_cases hk : k = t
    · subst hk
      simp only [if_true, lk]
      split <;> simp_all
    · rw [if_neg hk]
      simp only [lk, ih]
      by_cases hu : k = u
      · subst hu
        rw [if_pos rfl, if_pos rfl, if_neg (fun e => hk e.symm)]
      · rw [if_neg hu, if_neg hu]

def toT {α : Type} : List (Nat × α) → T α
  | [] => .e
  | (l, k) :: r => (toT r).set l k

theorem get_toT {α : Type} : ∀ (l : List (Nat × α)) (k : Nat), (toT l).get k = lk l k
  | [], k => rfl
  | (a, x) :: r, k => by simp only [toT, T.get_set, lk, get_toT r k]

def ldel {α : Type} : List (Nat × α) → Nat → List (Nat × α)
  | [], _ => []
  | (k, x) :: r, l => if k = l then ldel r l else (k, x) :: ldel r l

theorem lk_ldel {α : Type} : ∀ (r : List (Nat × α)) (l k : Nat), lk (ldel r l) k = if l = k then none else lk r k
  | [], l, k => by simp [ldel, lk]
  | (a, x) :: r, l, k => by
    simp only [ldel]
    by_cases h : a = l
    · subst h
      rw [if_pos rfl, lk_ldel r a k]
      simp only [lk]
      split <;> rfl
    · rw [if_neg h]
      simp only [lk, lk_ldel r l k]
      by_cases h1 : a = k
      · subst h1
        rw [if_pos rfl, if_pos rfl, if_neg (fun e => h e.symm)]
      · rw [if_neg h1, if_neg h1]

/-- How many slots there are, what is known of some, the parts of memory, the first name that is free, the marks. -/
structure S where
  n : Nat
  tm : List (Nat × D)
  hp : List (Nat × Blk)
  nx : Nat
  df : List Nat
  g : Option Nat
  ex : List D

def S.H (s : S) : H := { hp := toT s.hp, nx := s.nx }

def S.val (s : S) : Operand → D
  | .tmp t => (lk s.tm t).getD .any
  | .const v => constD v
  | .func f => .fn (.func f) [] []
  | .global _ => .any

structure SRep (zs : Nat → Value) (M : Mem) (s : S) (w : World) (a : Act) : Prop where
  h : RH M s.H w
  sz : a.tmps.size = s.n
  t : ∀ t d, lk s.tm t = some d → R M d (a.tmps.getD t undef)
  df : ∃ bs : List Nat, a.defers = bs.map (fun b => { target := .collected b, args := #[] }) ∧ bs.length = s.df.length ∧ ∀ (i : Nat) (l : Nat), s.df[i]? = some l → ∃ b : Nat, bs[i]? = some b ∧ M.at l b
  ex : ∀ (i : Nat) d, s.ex[i]? = some d → R M d (zs i)

theorem SRep.val {M : Mem} {s : S} {w : World} {a : Act} {zs : Nat → Value} (h : SRep zs M s w a) (x : Operand) : R M (s.val x) (a.eval x) := by
  cases x with
  | tmp t =>
    simp only [S.val]
    cases hl : lk s.tm t with
    | none => exact .any _
    | some d => exact h.t t d hl
  | const v => exact constD_R v
  | func f => exact .fn _ _ _ _ _ rfl rfl (fun i d hi => by simp at hi) (fun i d hi => by simp at hi)
  | global g => exact .any _

def S.put (s : S) : Option Tmp → D → S
  | none, _ => s
  | some t, d => { s with tm := up s.tm t d }

def S.room (s : S) : Option Tmp → Prop
  | none => True
  | some t => t < s.n

theorem SRep.put {M : Mem} {s : S} {w : World} {a : Act} {zs : Nat → Value} (h : SRep zs M s w a) {dst : Option Tmp} {d : D} {v : Value} (hd : R M d v) (hr : s.room dst) : SRep zs M (s.put dst d) w (a.put dst v) := by
  cases dst with
  | none => exact h
  | some t =>
    have ht : t < a.tmps.size := by rw [h.sz]; exact hr
    refine ⟨h.h, by simpa [Act.put, S.put] using h.sz, fun u e hu => ?_, h.df, h.ex⟩
    simp only [S.put, lk_up] at hu
    simp only [Act.put]
    by_cases htu : t = u
    · subst htu
      rw [if_pos rfl] at hu
      cases hu
      simpa [Array.getD, ht] using hd
    · rw [if_neg htu] at hu
      have := h.t u e hu
      have e : (a.tmps.setIfInBounds t v).getD u undef = a.tmps.getD u undef := by
        simp [Array.getD_eq_getD_getElem?, Array.getElem?_setIfInBounds_ne htu]
      rw [e]
      exact this

theorem SRep.mono {M M' : Mem} {s : S} {w w' : World} {a : Act} {zs : Nat → Value} (h : SRep zs M s w a) (hl : M.le M') {hp : List (Nat × Blk)} {nx : Nat} (hh : RH M' { hp := toT hp, nx := nx } w') : SRep zs M' { s with hp := hp, nx := nx } w' a := by
  refine ⟨hh, h.sz, fun t d e => (h.t t d e).mono hl, ?_, fun i d e => (h.ex i d e).mono hl⟩
  obtain ⟨bs, h1, h2, h3⟩ := h.df
  exact ⟨bs, h1, h2, fun i l e => let ⟨b, a1, a2⟩ := h3 i l e; ⟨b, a1, a2.mono hl⟩⟩

/-! ### Worlds -/
/-- What a piece of code may have changed: but for names. -/
structure ExtW (M : Mem) (w : World) (M' : Mem) (w' : World) : Prop where
  os : w'.os = w.os
  tape : w'.tape = w.tape
  output : w'.output = w.output
  size : w.heap.size ≤ w'.heap.size
  keep : ∀ b, b < w.heap.size → (∀ l c, M.μ l ≠ .blk b c) → w'.heap[b]? = w.heap[b]?
  new : ∀ l b c, M'.μ l = .blk b c → (∃ l' c', M.μ l' = .blk b c') ∨ w.heap.size ≤ b
  fz : ∀ b c, M.fz b = some c → M'.fz b = some c
  fznew : ∀ b c, M'.fz b = some c → M.fz b = some c ∨ (∃ l' c', M.μ l' = .blk b c') ∨ w.heap.size ≤ b

theorem Ext.w {M M' : Mem} {w w' : World} (h : Ext M w M' w') : ExtW M w M' w' := ⟨h.os, h.tape, h.output, h.size, h.keep, h.new, h.fz, h.fznew⟩

theorem ExtW.refl (M : Mem) (w : World) : ExtW M w M w := (Ext.refl M w).w

theorem ExtW.trans {M M1 M2 : Mem} {w w1 w2 : World} (h : ExtW M w M1 w1) (k : ExtW M1 w1 M2 w2) : ExtW M w M2 w2 where
  os := k.os.trans h.os
  tape := k.tape.trans h.tape
  output := k.output.trans h.output
  size := Nat.le_trans h.size k.size
  keep b hb hn := (k.keep b (Nat.lt_of_lt_of_le hb h.size) (fun l c hl => by
    rcases h.new l b c hl with ⟨l', c', h'⟩ | h'
    · exact hn l' c' h'
    · omega)).trans (h.keep b hb hn)
  new l b c hl := by
    rcases k.new l b c hl with ⟨l', c', h'⟩ | h'
    · exact h.new l' b c' h'
    · exact .inr (Nat.le_trans h.size h')
  fz b c hb := k.fz b c (h.fz b c hb)
  fznew b c hb := by
    rcases k.fznew b c hb with e | ⟨l', c', e⟩ | e
    · exact h.fznew b c e
    · rcases h.new l' b c' e with e2 | e2
      · exact .inr (.inl e2)
      · exact .inr (.inr e2)
    · exact .inr (.inr (Nat.le_trans h.size e))

/-! ### What is foreign -/
/-- As 'ExtW', of sets of blocks. -/
structure ExtO (own : Nat → Prop) (f : Nat → Option (Array Value)) (w : World) (own' : Nat → Prop) (f' : Nat → Option (Array Value)) (w' : World) : Prop where
  os : w'.os = w.os
  tape : w'.tape = w.tape
  output : w'.output = w.output
  size : w.heap.size ≤ w'.heap.size
  keep : ∀ b, b < w.heap.size → ¬ own b → w'.heap[b]? = w.heap[b]?
  new : ∀ b, own' b → own b ∨ w.heap.size ≤ b
  fz : ∀ b c, f b = some c → f' b = some c
  fznew : ∀ b c, f' b = some c → f b = some c ∨ own b ∨ w.heap.size ≤ b

theorem ExtO.refl (own : Nat → Prop) (fz : Nat → Option (Array Value)) (w : World) : ExtO own fz w own fz w :=
  ⟨rfl, rfl, rfl, Nat.le_refl _, fun _ _ _ => rfl, fun _ h => .inl h, fun _ _ h => h, fun _ _ h => .inl h⟩

theorem ExtO.trans {o o1 o2 : Nat → Prop} {f f1 f2 : Nat → Option (Array Value)} {w w1 w2 : World} (h : ExtO o f w o1 f1 w1) (k : ExtO o1 f1 w1 o2 f2 w2) : ExtO o f w o2 f2 w2 where
  os := k.os.trans h.os
  tape := k.tape.trans h.tape
  output := k.output.trans h.output
  size := Nat.le_trans h.size k.size
  keep b hb hn := (k.keep b (Nat.lt_of_lt_of_le hb h.size) (fun hl => (h.new b hl).elim hn (fun q => by omega))).trans (h.keep b hb hn)
  new b hl := (k.new b hl).elim (h.new b) (fun q => .inr (Nat.le_trans h.size q))
  fz b c hb := k.fz b c (h.fz b c hb)
  fznew b c hb := by
    rcases k.fznew b c hb with e | e | e
    · exact h.fznew b c e
    · exact .inr (h.new b e)
    · exact .inr (.inr (Nat.le_trans h.size e))

/-- The blocks that have names. -/
def Mem.img (M : Mem) (b : Nat) : Prop := ∃ l c, M.μ l = .blk b c

theorem ExtW.o {M M' : Mem} {w w' : World} (h : ExtW M w M' w') : ExtO M.img M.fz w M'.img M'.fz w' :=
  ⟨h.os, h.tape, h.output, h.size, fun b hb hn => h.keep b hb (fun l c e => hn ⟨l, c, e⟩), fun b ⟨l, c, e⟩ => h.new l b c e, h.fz, fun b c e => (h.fznew b c e).elim .inl (fun q => .inr q)⟩

theorem ExtO.w {M M' : Mem} {w w' : World} (h : ExtO M.img M.fz w M'.img M'.fz w') : ExtW M w M' w' :=
  ⟨h.os, h.tape, h.output, h.size, fun b hb hn => h.keep b hb (fun ⟨l, c, e⟩ => hn l c e), fun l b c e => h.new b ⟨l, c, e⟩, h.fz, fun b c e => (h.fznew b c e).elim .inl (fun q => .inr q)⟩

/-- What stands of the rest of the world, at each ghost: nothing that code does on its own blocks turns it. -/
structure Gh where
  p : Option Nat → (Nat → Prop) → (Nat → Option (Array Value)) → World → Prop
  st : ∀ {g own fz w own' fz' w'}, p g own fz w → ExtO own fz w own' fz' w' → p g own' fz' w'

def Gh.at (I : Gh) (g : Option Nat) (M : Mem) (w : World) : Prop := I.p g M.img M.fz w

theorem Gh.at.mono {I : Gh} {g : Option Nat} {M M' : Mem} {w w' : World} (h : I.at g M w) (he : ExtW M w M' w') : I.at g M' w' := I.st h he.o

/-- That nothing else has changed since. -/
def Gh.ext (own : Nat → Prop) (fz : Nat → Option (Array Value)) (w : World) : Gh := ⟨fun _ own' fz' w' => ExtO own fz w own' fz' w', fun h k => h.trans k⟩

/-! ### Code -/
inductive X where
  | normal
  | exit (id : Nat)
  | goto (l : Nat)
  | ret
  | panic (d : D)

def RX (M : Mem) : X → Exit → Prop
  | .normal, .normal => True
  | .exit i, .exit j => i = j
  | .goto i, .goto j => i = j
  | .ret, .ret => True
  | .panic d, .panic c => ∃ v, c = [{ v := v, recovered := false }] ∧ R M d v
  | _, _ => False

/-- From the state on, the code comes to an end of which Q holds. -/
def W (P : Program) (rl : Option Nat) (I : Gh) (c : Code) (Q : X → S → Prop) (s : S) : Prop :=
  ∀ r M w a zs, RelR M rl r → SRep zs M s w a → I.at s.g M w → c.wpIn (WF r) 0 P (fun e a' w' => ∃ x M' s', RX M' x e ∧ SRep zs M' s' w' a' ∧ I.at s'.g M' w' ∧ RelR M' rl r ∧ Q x s') a w

def X.then (K : S → Prop) (Q : X → S → Prop) : X → S → Prop
  | .normal, s => K s
  | x, s => Q x s

def X.inBlock (id : Nat) (Q : X → S → Prop) : X → S → Prop
  | .exit j, s => if j = id then Q .normal s else Q (.exit j) s
  | x, s => Q x s

section
variable {P : Program} {rl : Option Nat} {I : Gh} {Q : X → S → Prop} {s : S}

theorem W.mono {c : Code} {Q' : X → S → Prop} (h : W P rl I c Q s) (hq : ∀ x s, Q x s → Q' x s) : W P rl I c Q' s :=
  fun r M w a zs hrl hr hg => wpIn_mono (h r M w a zs hrl hr hg) fun _ _ _ ⟨x, M', s', h1, h2, h3, h4, h5⟩ => ⟨x, M', s', h1, h2, h3, h4, hq _ _ h5⟩

theorem w_skip (h : Q .normal s) : W P rl I .skip Q s := fun _ M w _ zs hrl hr hg => wpIn_skip ⟨.normal, M, s, trivial, hr, hg, hrl, h⟩
theorem w_label {l : Nat} (h : Q .normal s) : W P rl I (.label l) Q s := fun _ M w _ zs hrl hr hg => wpIn_label ⟨.normal, M, s, trivial, hr, hg, hrl, h⟩
theorem w_exit {id : Nat} (h : Q (.exit id) s) : W P rl I (.exit id) Q s := fun _ M w _ zs hrl hr hg => wpIn_exit ⟨.exit id, M, s, rfl, hr, hg, hrl, h⟩
theorem w_ret (h : Q .ret s) : W P rl I .ret Q s := fun _ M w _ zs hrl hr hg => wpIn_ret ⟨.ret, M, s, trivial, hr, hg, hrl, h⟩

theorem w_seq {x y : Code} (h : W P rl I x (X.then (W P rl I y Q) Q) s) : W P rl I (.seq x y) Q s := by
  intro r M w a zs hrl hr hg
  refine wpIn_seq (wpIn_mono (h r M w a zs hrl hr hg) ?_)
  rintro e a' w' ⟨x, M', s', h1, h2, h3, h4, h5⟩
  cases x <;> cases e <;> simp only [RX] at h1
  · exact h5 r M' w' a' zs h4 h2 h3
  · exact ⟨.exit _, M', s', h1, h2, h3, h4, h5⟩
  · exact ⟨.goto _, M', s', h1, h2, h3, h4, h5⟩
  · exact ⟨.ret, M', s', h1, h2, h3, h4, h5⟩
  · exact ⟨.panic _, M', s', h1, h2, h3, h4, h5⟩

theorem w_block {id : Nat} {c : Code} (h : W P rl I c (X.inBlock id Q) s) : W P rl I (.block id c) Q s := by
  intro r M w a zs hrl hr hg
  refine wpIn_block (wpIn_mono (h r M w a zs hrl hr hg) ?_)
  rintro e a' w' ⟨x, M', s', h1, h2, h3, h4, h5⟩
  cases x <;> cases e <;> simp only [RX] at h1
  · exact ⟨.normal, M', s', trivial, h2, h3, h4, h5⟩
  · subst h1
    simp only [X.inBlock] at h5
    simp only [Exit.inBlock]
    split
    · rename_i hi
      rw [if_pos hi] at h5
      exact ⟨.normal, M', s', trivial, h2, h3, h4, h5⟩
    · rename_i hi
      rw [if_neg hi] at h5
      exact ⟨.exit _, M', s', rfl, h2, h3, h4, h5⟩
  · exact ⟨.goto _, M', s', h1, h2, h3, h4, h5⟩
  · exact ⟨.ret, M', s', h1, h2, h3, h4, h5⟩
  · exact ⟨.panic _, M', s', h1, h2, h3, h4, h5⟩

/-- What a state knows, another one knows (of the same memory). -/
def S.le (rl : Option Nat) (s s' : S) : Prop := s'.g = s.g ∧ ∀ r M w a zs, RelR M rl r → SRep zs M s w a → ∃ M', SRep zs M' s' w a ∧ ExtW M w M' w ∧ RelR M' rl r

theorem S.le.refl (s : S) : s.le rl s := ⟨rfl, fun r M w _ zs hrl h => ⟨M, h, ExtW.refl M w, hrl⟩⟩
theorem S.le.trans {s s1 s2 : S} (h : s.le rl s1) (k : s1.le rl s2) : s.le rl s2 := ⟨k.1.trans h.1, fun r M w a zs hrl hr => by
  obtain ⟨M1, h1, h2, h3⟩ := h.2 r M w a zs hrl hr
  obtain ⟨M2, k1, k2, k3⟩ := k.2 r M1 w a zs h3 h1
  exact ⟨M2, k1, h2.trans k2, k3⟩⟩

theorem w_weaken {c : Code} {s' : S} (hs : s.le rl s') (h : W P rl I c Q s') : W P rl I c Q s := by
  intro r M w a zs hrl hr hg
  obtain ⟨M', hr', he, hrl'⟩ := hs.2 r M w a zs hrl hr
  exact h r M' w a zs hrl' hr' (hs.1 ▸ hg.mono he)

theorem w_cond {c : Operand} {x y : Code} (b : Bool) (hc : s.val c = .lit (.bool b)) (ht : b = true → W P rl I x Q s) (hf : b = false → W P rl I y Q s) : W P rl I (.cond c x y) Q s := by
  intro r M w a zs hrl hr hg
  have hv := hr.val c
  rw [hc] at hv
  have hv := hv.litE
  cases b with
  | true => exact wpIn_cond_true hv (ht rfl r M w a zs hrl hr hg)
  | false => exact wpIn_cond_false hv (hf rfl r M w a zs hrl hr hg)

/-- A loop: its heads are the states 'F x', x of whatever type; a round lowers a measure of x. -/
theorem w_loop {c : Code} {α : Type} (F : α → S) (m : α → Nat) (x0 : α) (h0 : s.le rl (F x0))
    (round : ∀ x, W P rl I c (X.then (fun s' => ∃ y, s'.le rl (F y) ∧ m y < m x) Q) (F x)) : W P rl I (.loop c) Q s := by
  intro r M w a zs hrl hr hg
  refine wpIn_loop_rel (fun j a' w' => ∃ M' x, m x = j ∧ SRep zs M' (F x) w' a' ∧ I.at (F x).g M' w' ∧ RelR M' rl r) ?_ (m x0) a w ?_
  · rintro j a1 w1 ⟨M1, x, rfl, hr1, he1, hrl1⟩
    refine wpIn_mono (round x r M1 w1 a1 zs hrl1 hr1 he1) ?_
    rintro e a' w' ⟨z, M', s', h1, h2, h3, h4, h5⟩
    cases z <;> cases e <;> simp only [RX] at h1
    · obtain ⟨y, hy, hlt⟩ := h5
      obtain ⟨M2, h5, h6, h7⟩ := hy.2 r M' w' a' zs h4 h2
      exact ⟨m y, hlt, M2, y, rfl, h5, hy.1 ▸ h3.mono h6, h7⟩
    · exact ⟨.exit _, M', s', h1, h2, h3, h4, h5⟩
    · exact ⟨.goto _, M', s', h1, h2, h3, h4, h5⟩
    · exact ⟨.ret, M', s', h1, h2, h3, h4, h5⟩
    · exact ⟨.panic _, M', s', h1, h2, h3, h4, h5⟩
  · obtain ⟨M', hr', he, hrl'⟩ := h0.2 r M w a zs hrl hr
    exact ⟨M', x0, rfl, hr', h0.1 ▸ hg.mono he, hrl'⟩
end

/-! ### What a state may forget, and how its names may turn -/
mutual
/-- Leads to no name from n on. -/
def D.bel (n : Nat) : D → Bool
  | .lit _ => true
  | .agg l => D.belL n l
  | .pt l _ => decide (l < n)
  | .sl l _ _ _ => decide (l < n)
  | .fn _ a b => D.belL n a && D.belL n b
  | .yl l => decide (l < n)
  | .ifc _ d => D.bel n d
  | .tup l => D.belL n l
  | .em => true
  | .un => true
  | .one => true
  | .any => true
  | .sq _ _ rows => D.belLL 0 rows
  | .ps _ row _ => D.belL 0 row
  | .gd _ d => D.bel n d
  | .ow l _ => decide (l < n)
  | .mp l => decide (l < n)
  | .con _ => true
def D.belL (n : Nat) : List D → Bool
  | [] => true
  | d :: r => D.bel n d && D.belL n r
def D.belLL (n : Nat) : List (List D) → Bool
  | [] => true
  | d :: r => D.belL n d && D.belLL n r
end

theorem belL_get (n : Nat) : ∀ (ds : List D) (i : Nat) (d : D), D.belL n ds = true → ds[i]? = some d → D.bel n d = true
  | [], i, d, _, h => by simp at h
  | e :: r, 0, d, hb, h => by
    simp only [D.belL, Bool.and_eq_true] at hb
    simp at h
    subst h
    exact hb.1
  | e :: r, i + 1, d, hb, h => by
    simp only [D.belL, Bool.and_eq_true] at hb
    exact belL_get n r i d hb.2 (by simpa using h)

theorem belLL_get (n : Nat) : ∀ (ds : List (List D)) (i : Nat) (d : List D), D.belLL n ds = true → ds[i]? = some d → D.belL n d = true
  | [], i, d, _, h => by simp at h
  | e :: r, 0, d, hb, h => by
    simp only [D.belLL, Bool.and_eq_true] at hb
    simp at h
    subst h
    exact hb.1
  | e :: r, i + 1, d, hb, h => by
    simp only [D.belLL, Bool.and_eq_true] at hb
    exact belLL_get n r i d hb.2 (by simpa using h)

mutual
/-- With its names turned. -/
def D.ren (f : Nat → Nat) : D → D
  | .lit v => .lit v
  | .agg l => .agg (D.renL f l)
  | .pt l o => .pt (f l) o
  | .sl l a b c => .sl (f l) a b c
  | .fn g a b => .fn g (D.renL f a) (D.renL f b)
  | .yl l => .yl (f l)
  | .ifc t d => .ifc t (D.ren f d)
  | .tup l => .tup (D.renL f l)
  | .em => .em
  | .un => .un
  | .one => .one
  | .any => .any
  | .sq a b rows => .sq a b rows
  | .ps q row o => .ps q row o
  | .gd c d => .gd c (D.ren f d)
  | .ow l n => .ow (f l) n
  | .mp l => .mp (f l)
  | .con v => .con v
def D.renL (f : Nat → Nat) : List D → List D
  | [] => []
  | d :: r => D.ren f d :: D.renL f r
end

theorem renL_get (f : Nat → Nat) : ∀ (ds : List D) (i : Nat), (D.renL f ds)[i]? = (ds[i]?).map (D.ren f)
  | [], i => by simp [D.renL]
  | d :: r, 0 => by simp [D.renL]
  | d :: r, i + 1 => by simp [D.renL, renL_get f r i]

theorem renL_length (f : Nat → Nat) : ∀ ds : List D, (D.renL f ds).length = ds.length
  | [] => rfl
  | d :: r => by simp [D.renL, renL_length f r]

def Blk.bel (n : Nat) : Blk → Bool
  | .cells _ _ ds => D.belL n ds
  | .dfr => true
  | .loop _ => false
  | .map es => D.belL n (es.map (·.2))
  | .mit none _ _ _ => true
  | .mit (some l) _ _ _ => decide (l < n)

def Blk.ren (f : Nat → Nat) : Blk → Blk
  | .cells a b ds => .cells a b (D.renL f ds)
  | .map es => .map (es.map fun p => (p.1, D.ren f p.2))
  | .mit (some l) a b c => .mit (some (f l)) a b c
  | b => b

/-- Fewer names, turned. -/
def Mem.ren (M : Mem) (f : Nat → Nat) (n : Nat) : Mem := { M with μ := fun l => if l < n then M.μ (f l) else .dead, nx := n }

theorem at_ren {M : Mem} {f : Nat → Nat} {n l b : Nat} (hl : l < n) (ha : M.at (f l) b) : (M.ren f n).at l b := by
  refine ⟨hl, ?_, ?_, ?_⟩ <;> simp only [Mem.ren, hl, if_true]
  · exact ha.2.1
  · exact ha.2.2.1
  · exact ha.2.2.2

/-- What leads to no name stands in every memory that keeps what does not change. -/
theorem R.free {M M' : Mem} {d : D} {v : Value} (h : R M d v) (hb : D.bel 0 d = true) (hf : ∀ b c, M.fz b = some c → M'.fz b = some c) : R M' d v := by
  induction h with
  | lit v h => exact .lit v h
  | agg l cs hs h1 h ih => exact .agg l cs hs h1 (fun i d hi => ih i d hi (belL_get 0 l i d (by simpa [D.bel] using hb) hi))
  | pt l o b ha => simp [D.bel] at hb
  | sl l off len cap b k ha hk h0 hn hm => simp [D.bel] at hb
  | fn f first caps v1 v2 h1 h2 r1 r2 ih1 ih2 =>
    simp only [D.bel, Bool.and_eq_true] at hb
    exact .fn f first caps v1 v2 h1 h2 (fun i d hi => ih1 i d hi (belL_get 0 first i d hb.1 hi)) (fun i d hi => ih2 i d hi (belL_get 0 caps i d hb.2 hi))
  | yl l b ha => simp [D.bel] at hb
  | ifc t d v h ih => exact .ifc t d v (ih (by simpa [D.bel] using hb))
  | tup l vs hs h ih => exact .tup l vs hs (fun i d hi => ih i d hi (belL_get 0 l i d (by simpa [D.bel] using hb) hi))
  | em a k h => exact .em a k h
  | un => exact .un
  | one v h => exact .one v h
  | any v => exact .any v
  | ow l m v ho => simp [D.bel] at hb
  | sqn f sz a => exact .sqn f sz a
  | sq f sz rows b off k c V hb' hn hm hf' hz h1 h2 ih =>
    exact .sq f sz rows b off k c V (hf b c hb') hn hm hf' hz h1 (fun i r j x hi hj => ih i r j x hi hj (belL_get 0 r j x (belLL_get 0 rows i r (by simpa [D.bel] using hb) hi) hj))
  | ps q row o b off c V hb' hq h1 h2 ih => exact .ps q row o b off c V (hf b c hb') hq h1 (fun j x hj => ih j x hj (belL_get 0 row j x (by simpa [D.bel] using hb) hj))
  | con v h => exact .con v h
  | mp l b ha => simp [D.bel] at hb
  | gd c d v h1 h2 ih => exact .gd c d v (fun hc => ih hc (by simpa [D.bel] using hb)) h2

theorem R.ren {M : Mem} {f : Nat → Nat} {n : Nat} : ∀ {d : D} {v : Value}, R M (d.ren f) v → D.bel n d = true → R (M.ren f n) d v := by
  have key : ∀ {e : D} {v : Value}, R M e v → ∀ d : D, e = d.ren f → D.bel n d = true → R (M.ren f n) d v := by
    intro e v h
    induction h with
    | lit v h => intro d he hb; cases d <;> simp only [D.ren, reduceCtorEq] at he; cases he; exact .lit v h
    | agg l cs hs h1 h ih =>
      intro d he hb
      cases d <;> simp only [D.ren, reduceCtorEq] at he
      rename_i l'
      injection he with he
      subst he
      refine .agg l' cs (by rw [hs, renL_length]) (fun i d hi => h1 i (d.ren f) (by rw [renL_get, hi]; rfl)) (fun i d hi => ih i (d.ren f) (by rw [renL_get, hi]; rfl) d rfl (belL_get n l' i d (by simpa [D.bel] using hb) hi))
    | pt l o b ha =>
      intro d he hb
      cases d <;> simp only [D.ren, reduceCtorEq] at he
      injection he with h1 h2
      subst h1 h2
      exact .pt _ _ b (at_ren (by simpa [D.bel] using hb) ha)
    | sl l off len cap b k ha hk h0 hn hm =>
      intro d he hb
      cases d <;> simp only [D.ren, reduceCtorEq] at he
      injection he with h1 h2 h3 h4
      subst h1 h2 h3 h4
      rename_i l0
      have hl : l0 < n := by simpa [D.bel] using hb
      exact .sl _ _ _ _ b k (at_ren hl ha) hk (fun hc ho b' c' e => h0 hc ho b' c' (by simpa [Mem.ren, hl] using e)) hn hm
    | fn g first caps v1 v2 h1 h2 r1 r2 ih1 ih2 =>
      intro d he hb
      cases d <;> simp only [D.ren, reduceCtorEq] at he
      injection he with e1 e2 e3
      subst e1 e2 e3
      simp only [D.bel, Bool.and_eq_true] at hb
      exact .fn _ _ _ v1 v2 (by rw [h1, renL_length]) (by rw [h2, renL_length]) (fun i d hi => ih1 i (d.ren f) (by rw [renL_get, hi]; rfl) d rfl (belL_get n _ i d hb.1 hi)) (fun i d hi => ih2 i (d.ren f) (by rw [renL_get, hi]; rfl) d rfl (belL_get n _ i d hb.2 hi))
    | yl l b ha =>
      intro d he hb
      cases d <;> simp only [D.ren, reduceCtorEq] at he
      injection he with h1
      subst h1
      exact .yl _ b (at_ren (by simpa [D.bel] using hb) ha)
    | ifc t e v h ih =>
      intro d he hb
      cases d <;> simp only [D.ren, reduceCtorEq] at he
      injection he with h1 h2
      subst h1
      exact .ifc _ _ v (ih _ h2 (by simpa [D.bel] using hb))
    | tup l vs hs h ih =>
      intro d he hb
      cases d <;> simp only [D.ren, reduceCtorEq] at he
      rename_i l'
      injection he with he
      subst he
      exact .tup l' vs (by rw [hs, renL_length]) (fun i d hi => ih i (d.ren f) (by rw [renL_get, hi]; rfl) d rfl (belL_get n l' i d (by simpa [D.bel] using hb) hi))
    | em a k h => intro d he hb; cases d <;> simp only [D.ren, reduceCtorEq] at he; exact .em a k h
    | un => intro d he hb; cases d <;> simp only [D.ren, reduceCtorEq] at he; exact .un
    | one v h => intro d he hb; cases d <;> simp only [D.ren, reduceCtorEq] at he; exact .one v h
    | any v => intro d he hb; cases d <;> simp only [D.ren, reduceCtorEq] at he; exact .any v
    | ow l m v ho =>
      intro d he hb
      cases d <;> simp only [D.ren, reduceCtorEq] at he
      injection he with h1 h2
      subst h1 h2
      rename_i l0
      have hl : l0 < n := by simpa [D.bel] using hb
      refine .ow _ _ v ⟨hl, ?_, ?_⟩
      · simpa only [Mem.ren, hl, if_true] using ho.val
      · simpa only [Mem.ren, hl, if_true] using ho.nres
    | sqn g sz a =>
      intro d he hb
      cases d <;> simp only [D.ren, reduceCtorEq] at he
      injection he with h1 h2 h3
      subst h1 h2 h3
      exact .sqn _ _ a
    | sq g sz rows b off k c V hb' hn hm hf hz h1 h2 ih =>
      intro d he hb
      cases d <;> simp only [D.ren, reduceCtorEq] at he
      injection he with e1 e2 e3
      subst e1 e2 e3
      exact .sq _ _ _ b off k c V hb' hn hm hf hz h1 (fun i r j x hi hj => (h2 i r j x hi hj).free (belL_get 0 r j x (belLL_get 0 _ i r (by simpa [D.bel] using hb) hi) hj) (fun _ _ h => h))
    | con v h => intro d he hb; cases d <;> simp only [D.ren, reduceCtorEq] at he; cases he; exact .con v h
    | mp l b ha =>
      intro d he hb
      cases d <;> simp only [D.ren, reduceCtorEq] at he
      injection he with h1
      subst h1
      exact .mp _ b (at_ren (by simpa [D.bel] using hb) ha)
    | ps q row o b off c V hb' hq h1 h2 ih =>
      intro d he hb
      cases d <;> simp only [D.ren, reduceCtorEq] at he
      injection he with e0 e1 e2
      subst e0 e1 e2
      exact .ps _ _ _ b off c V hb' hq h1 (fun j x hj => (h2 j x hj).free (belL_get 0 _ j x (by simpa [D.bel] using hb) hj) (fun _ _ h => h))
    | gd c e v h1 h2 ih =>
      intro d he hb
      cases d <;> simp only [D.ren, reduceCtorEq] at he
      injection he with e1 e2
      subst e1
      exact .gd _ _ v (fun hc => ih hc _ e2 (by simpa [D.bel] using hb)) h2
  exact fun {d v} h hb => key h d rfl hb

/-- A state that knows less, has fewer names, and other ones: 'f' tells of each of its names what it was. -/
theorem S.le_ren {rl : Option Nat} {s s' : S} (f : Nat → Nat) (hinj : ∀ i j, i < s'.nx → j < s'.nx → f i = f j → i = j) (hn : s'.n = s.n) (hdf : s.df = s'.df.map f) (hd : ∀ l, l ∈ s'.df → l < s'.nx) (hrl : ∀ l, rl = some l → l < s'.nx ∧ f l = l)
    (ht : ∀ t d, lk s'.tm t = some d → lk s.tm t = some (d.ren f) ∧ D.bel s'.nx d = true) (hh : ∀ l k, lk s'.hp l = some k → lk s.hp (f l) = some (k.ren f) ∧ Blk.bel s'.nx k = true ∧ l < s'.nx) (hgg : s'.g = s.g)
    (hex : s'.ex.length = s.ex.length ∧ ∀ (i : Nat) d, s'.ex[i]? = some d → s.ex[i]? = some (d.ren f) ∧ D.bel s'.nx d = true) : s.le rl s' := by
  refine ⟨hgg, fun r M w a zs hrr hr => ?_⟩
  have hc : ∀ l b c, (M.ren f s'.nx).μ l = .blk b c → l < s'.nx ∧ M.μ (f l) = .blk b c := fun l b c h => by
    simp only [Mem.ren] at h
    split at h
    · rename_i hl; exact ⟨hl, h⟩
    · cases h
  refine ⟨M.ren f s'.nx, ⟨⟨⟨fun l l' b c c' h h' => ?_, fun l b c h => hr.h.inv.lt _ b c (hc l b c h).2, fun l b c h => (hc l b c h).1, hr.h.inv.fz, fun b c e l k h => hr.h.inv.sep b c e _ k (hc l b k h).2⟩, fun l k e => ?_, rfl⟩, by rw [hn]; exact hr.sz, fun t d h => ?_, ?_, fun i d h => (hr.ex i _ (hex.2 i d h).1).ren (hex.2 i d h).2⟩,
    ⟨rfl, rfl, rfl, Nat.le_refl _, fun _ _ _ => rfl, fun l b c h => .inl ⟨_, c, (hc l b c h).2⟩, fun _ _ h => h, fun _ _ h => .inl h⟩, ?_⟩
  · obtain ⟨h1, h2⟩ := hc l b c h
    obtain ⟨h1', h2'⟩ := hc l' b c' h'
    exact hinj l l' h1 h1' (hr.h.inv.inj _ _ b c c' h2 h2')
  · have e : lk s'.hp l = some k := by rw [← get_toT]; exact e
    obtain ⟨e1, e2, e3⟩ := hh l k e
    have := hr.h.hp (f l) _ (by show (toT s.hp).get (f l) = _; rw [get_toT]; exact e1)
    rw [show (M.ren f s'.nx).μ l = M.μ (f l) by simp [Mem.ren, e3]]
    generalize M.μ (f l) = p at this
    cases p with
    | dead => exact this
    | res => trivial
    | nil =>
      obtain ⟨ty, sz, h1⟩ := this
      cases k with
      | cells a b ds =>
        simp only [Blk.ren] at h1
        injection h1 with h1 h2 h3
        subst h1 h2
        cases ds with
        | nil => exact ⟨_, _, rfl⟩
        | cons d r => simp [D.renL] at h3
      | dfr => cases h1
      | loop L => cases h1
      | map es => cases h1
      | mit ol a b c => cases ol <;> cases h1
    | blk b c =>
      cases k with
      | cells ty op ds =>
        obtain ⟨cur, h1, h2, h3⟩ := this
        refine ⟨cur, h1, ?_, fun i d e => ⟨(h3 i (d.ren f) (by rw [renL_get, e]; rfl)).1, (h3 i (d.ren f) (by rw [renL_get, e]; rfl)).2.ren (belL_get _ ds i d e2 e)⟩⟩
        rw [renL_length] at h2
        exact h2
      | dfr => exact this
      | loop L => cases e2
      | map es =>
        obtain ⟨arr, h1, h2, h3⟩ := this
        refine ⟨arr, by simpa using h1, by simpa using h2, fun i p hp => ?_⟩
        obtain ⟨x, q1, q2, q3, q4, q5⟩ := h3 i (p.1, D.ren f p.2) (by rw [List.getElem?_map, hp]; rfl)
        exact ⟨x, q1, q2, q3.ren (belL_get _ (es.map (·.2)) i p.2 (by simpa only [Blk.bel] using e2) (by rw [List.getElem?_map, hp]; rfl)), q4, q5⟩
      | mit ol a b' c' =>
        cases ol with
        | none =>
          obtain ⟨ob, h1, h2⟩ := this
          exact ⟨ob, h1, by cases ob <;> exact h2⟩
        | some m =>
          obtain ⟨ob, h1, h2⟩ := this
          refine ⟨ob, h1, ?_⟩
          cases ob with
          | none => exact h2
          | some bm => exact at_ren (by simpa [Blk.bel] using e2) h2
  · obtain ⟨h1, h2⟩ := ht t d h
    exact (hr.t t _ h1).ren h2
  · obtain ⟨bs, h1, h2, h3⟩ := hr.df
    refine ⟨bs, h1, by rw [h2, hdf, List.length_map], fun i l hl => ?_⟩
    obtain ⟨b, a1, a2⟩ := h3 i (f l) (by rw [hdf, List.getElem?_map, hl]; rfl)
    exact ⟨b, a1, at_ren (hd l (List.mem_of_getElem? hl)) a2⟩
  · cases rl with
    | none => cases r <;> exact hrr
    | some l => cases r with
      | none => exact hrr.elim
      | some b =>
        obtain ⟨h1, h2⟩ := hrl l rfl
        exact at_ren h1 (by rw [h2]; exact hrr)

/-- A slice that holds nothing becomes an own one. -/
theorem S.le_nil {rl : Option Nat} {s : S} (t : Nat) (ty : TypeId) (sz : Nat) (ht : lk s.tm t = some (.lit (.slice none 0 0))) : s.le rl { s with tm := up s.tm t (.ow s.nx 0), hp := up s.hp s.nx (.cells ty (some sz) []), nx := s.nx + 1 } := by
  refine ⟨rfl, fun r M w a zs hrr hr => ?_⟩
  have hnx : M.nx = s.nx := hr.h.nx.symm
  have hle : M.le (M.set s.nx .nil (s.nx + 1)) := ⟨by simp [Mem.set, hnx], fun l hl => by
    left
    have : l ≠ s.nx := by omega
    simp [Mem.set, this], fun _ _ h => h⟩
  have old : ∀ l b c, (M.set s.nx .nil (s.nx + 1)).μ l = .blk b c → M.μ l = .blk b c := fun l b c e => by
    simp only [Mem.set] at e
    split at e
    · cases e
    · exact e
  refine ⟨M.set s.nx .nil (s.nx + 1), ⟨⟨⟨fun l l' b c c' e e' => hr.h.inv.inj l l' b c c' (old _ _ _ e) (old _ _ _ e'), fun l b c e => hr.h.inv.lt l b c (old _ _ _ e), fun l b c e => ?_, hr.h.inv.fz, fun b q e l k e' => hr.h.inv.sep b q e l k (old _ _ _ e')⟩, fun l k e => ?_, rfl⟩, hr.sz, fun u d e => ?_, ?_, fun i d e => (hr.ex i d e).mono hle⟩,
    ⟨rfl, rfl, rfl, Nat.le_refl _, fun _ _ _ => rfl, fun l b c e => .inl ⟨l, c, old _ _ _ e⟩, fun _ _ h => h, fun _ _ h => .inl h⟩, hrr.mono hle⟩
  · have := hr.h.inv.nx l b c (old _ _ _ e)
    simp only [Mem.set]; omega
  · have e : lk (up s.hp s.nx (.cells ty (some sz) [])) l = some k := by rw [← get_toT]; exact e
    rw [lk_up] at e
    by_cases h1 : s.nx = l
    · subst h1
      rw [if_pos rfl] at e
      cases e
      simp only [Mem.set, if_true]
      exact ⟨_, _, rfl⟩
    · rw [if_neg h1] at e
      have := (hr.h.hp l k (by show (toT s.hp).get l = _; rw [get_toT]; exact e)).mono hle (w' := w) (fun _ _ _ => rfl)
      rw [show (M.set s.nx .nil (s.nx + 1)).μ l = M.μ l by simp only [Mem.set]; rw [if_neg (fun q => h1 q.symm)]]
      exact this
  · simp only [lk_up] at e
    by_cases h1 : t = u
    · subst h1
      rw [if_pos rfl] at e
      cases e
      have hv := hr.t t _ ht
      generalize a.tmps.getD t undef = v at hv
      cases hv
      exact .ow _ _ _ ⟨by simp [Mem.set], ⟨none, 0, rfl, Nat.le_refl _, Nat.zero_le _, fun x => by omega, fun b c e => by simp [Mem.set] at e, fun _ => ⟨rfl, rfl⟩⟩, by simp [Mem.set]⟩
    · rw [if_neg h1] at e
      exact (hr.t u d e).mono hle
  · obtain ⟨bs, h1, h2, h3⟩ := hr.df
    exact ⟨bs, h1, h2, fun i l e => let ⟨b, a1, a2⟩ := h3 i l e; ⟨b, a1, a2.mono hle⟩⟩
end Go.Ev
