/-
  How regions are unfolded: what lies behind an operation is not looked at before the operation is done.
-/
import Derived.Test.YthlebppdhipanaaSyH
set_option linter.all false
namespace Go.Ev
open Go.Aw (tiOf)

/-- A mark: what stands under it is reckoned first. -/
@[irreducible] def ev {α : Type} (a : α) : α := a
theorem ev_eq {α : Type} (a : α) : ev a = a := by unfold ev; rfl

def quietK (v : Option D) (so ob : Prop) (e : Bool) (g : Option (Nat × Bool)) (dst : Option Tmp) (s : S) (K : S → Prop) : Prop :=
  match v with
  | some d => (e = true → so ∧ ob) ∧ s.room dst ∧ K (s.put dst (mkd g e d))
  | none => e = false ∧ s.room dst ∧ K (s.put dst (.gd false (.lit (.bool false))))

def bigK (v : Option (D × List (Nat × Blk) × Nat)) (so ob : Prop) (e : Bool) (dst : Option Tmp) (s : S) (K : S → Prop) : Prop :=
  match v with
  | some (d, hp', nx') => (e = true → so ∧ ob ∧ s.room dst ∧ K ({ s with hp := hp', nx := nx' }.put dst d)) ∧ (e = false → s.room dst ∧ K (s.put dst .un))
  | none => e = false ∧ s.room dst ∧ K (s.put dst .un)

def runK (g : GS) (A : Bool → Prop) (B : Prop) : Prop :=
  match g with
  | .bad => False
  | .skip => B
  | .run e => A e

def boolOf : D → Option Bool
  | .lit (.bool b) => some b
  | _ => none

def optK {α : Type} (v : Option α) (f : α → Prop) : Prop :=
  match v with
  | some d => f d
  | none => False

def hAt : List (Option Tmp) → Nat → Option Tmp
  | [], _ => none
  | x :: _, 0 => x
  | _ :: r, n + 1 => hAt r n

theorem hAt_eq : ∀ (h : List (Option Tmp)) (j : Nat), hAt h j = (h[j]?).join
  | [], j => by simp [hAt]
  | x :: r, 0 => by simp [hAt]
  | x :: r, n + 1 => by simp [hAt, hAt_eq r n]

/-- Regions in the text's order: what slots the operations till here have. -/
def seqH (P : Program) (rl : Option Nat) (I : Gh) : List (Option Tmp) → List Oper → S → (S → Prop) → (D → S → Prop) → Prop
  | _, [], s, K, _ => K s
  | h, o :: rest, s, K, Kp => noPanic o.op = true ∧ runK (guardS (hAt h) s.tm o.guard) (fun e => stepS P rl I e o s (fun s' => seqH P rl I (h ++ [o.dst]) rest s' K Kp) Kp) (s.room o.dst ∧ seqH P rl I (h ++ [o.dst]) rest (s.put o.dst .un) K Kp)

section
variable {P : Program} {rl : Option Nat} {I : Gh} {gd : Nat → Option Tmp} {e e' : Bool} {o : Oper} {s : S} {K : S → Prop} {Kp : D → S → Prop}

theorem quietS_eq : quietS P e o s K = quietK (ev (valS P s.H s.uv o.op)) (strictO s.val o.op.operands.toList) (oblS P s.H s.uv o.op) e o.guard o.dst s K := by
  rw [ev_eq]; unfold quietS quietK; rfl

theorem bigS_eq : bigS P e o s K = bigK (ev (bigL P s.hp s.nx s.uv o.op)) (strictO s.val o.op.operands.toList) (bigO P s.hp s.uv o.op) e o.dst s K := by
  rw [ev_eq]; unfold bigS bigK; rfl

theorem optK_some {α : Type} {a : α} {f : α → Prop} : optK (some a) f = f a := rfl
@[congr] theorem optK_congr {α : Type} {v v' : Option α} {f : α → Prop} (h : v = v') : optK v f = optK v' f := by rw [h]

theorem pickS_eq {g : Option (Nat × Bool)} {dst : Option Tmp} {c x y : D} : pickS e g dst c x y s K = optK (ev (boolOf (ungd c))) fun b => optK (ev (pickV b (ungd x) (ungd y))) fun d => (e = true → gobl c ∧ (b = true → gobl x) ∧ (b = false → gobl y)) ∧ s.room dst ∧ K (ev (s.put dst (mkd g e d))) := by
  simp only [ev_eq]
  unfold pickS
  split
  · rename_i b hb
    simp only [hb, boolOf, optK]
    cases pickV b (ungd x) (ungd y) <;> rfl
  · rename_i hb
    have : boolOf (ungd c) = none := by
      unfold boolOf
      split
      · rename_i b h; exact absurd h (hb b)
      · rfl
    rw [this]
    rfl

theorem seqH_nil {h : List (Option Tmp)} : seqH P rl I h [] s K Kp = K s := rfl
theorem seqH_cons {h : List (Option Tmp)} {rest : List Oper} : seqH P rl I h (o :: rest) s K Kp = (noPanic o.op = true ∧ runK (guardS (hAt h) s.tm o.guard) (fun e => stepS P rl I e o s (fun s' => seqH P rl I (h ++ [o.dst]) rest s' K Kp) Kp) (s.room o.dst ∧ seqH P rl I (h ++ [o.dst]) rest (s.put o.dst .un) K Kp)) := rfl
theorem seqH_step {h : List (Option Tmp)} {rest : List Oper} {n : Nat} {tm : List (Nat × D)} {hp : List (Nat × Blk)} {nx : Nat} {df : List Nat} {g : Option Nat} {ex : List D} : seqH P rl I h (o :: rest) ⟨n, tm, hp, nx, df, g, ex⟩ K Kp = (noPanic o.op = true ∧ runK (ev (guardS (hAt h) tm o.guard)) (fun e => stepS P rl I e o ⟨n, tm, hp, nx, df, g, ex⟩ (fun s' => seqH P rl I (h ++ [o.dst]) rest s' K Kp) Kp) ((S.mk n tm hp nx df g ex).room o.dst ∧ seqH P rl I (h ++ [o.dst]) rest (ev ((S.mk n tm hp nx df g ex).put o.dst .un)) K Kp)) := by
  rw [seqH_cons, ev_eq, ev_eq]

theorem runK_run {A : Bool → Prop} {B : Prop} : runK (.run e) A B = A e := rfl
theorem runK_skip {A : Bool → Prop} {B : Prop} : runK .skip A B = B := rfl
theorem quietK_some {d : D} {so ob : Prop} {g : Option (Nat × Bool)} {dst : Option Tmp} : quietK (some d) so ob e g dst s K = ((e = true → so ∧ ob) ∧ s.room dst ∧ K (ev (s.put dst (mkd g e d)))) := by rw [ev_eq]; rfl
theorem quietK_none {so ob : Prop} {g : Option (Nat × Bool)} {dst : Option Tmp} : quietK none so ob e g dst s K = (e = false ∧ s.room dst ∧ K (ev (s.put dst (.gd false (.lit (.bool false)))))) := by rw [ev_eq]; rfl
theorem bigK_some {d : D} {hp' : List (Nat × Blk)} {nx' : Nat} {so ob : Prop} {dst : Option Tmp} : bigK (some (d, hp', nx')) so ob e dst s K = ((e = true → so ∧ ob ∧ s.room dst ∧ K (ev ({ s with hp := hp', nx := nx' }.put dst d))) ∧ (e = false → s.room dst ∧ K (ev (s.put dst .un)))) := by rw [ev_eq, ev_eq]; rfl

@[congr] theorem quietK_congr {v v' : Option D} {so ob : Prop} {g : Option (Nat × Bool)} {dst : Option Tmp} (h : v = v') : quietK v so ob e g dst s K = quietK v' so ob e g dst s K := by rw [h]
@[congr] theorem bigK_congr {v v' : Option (D × List (Nat × Blk) × Nat)} {so ob : Prop} {dst : Option Tmp} (h : v = v') : bigK v so ob e dst s K = bigK v' so ob e dst s K := by rw [h]
@[congr] theorem runK_congr {g g' : GS} {A : Bool → Prop} {B : Prop} (h : g = g') : runK g A B = runK g' A B := by rw [h]
@[congr] theorem seqS_congr {l : List Oper} {s s' : S} (h : s = s') : seqS P rl I gd l s K Kp = seqS P rl I gd l s' K Kp := by rw [h]
@[congr] theorem seqH_congr {h h' : List (Option Tmp)} {l : List Oper} {s s' : S} (hs : s = s') (hh : h = h') : seqH P rl I h l s K Kp = seqH P rl I h' l s' K Kp := by rw [hs, hh]
@[congr] theorem stepS_congr {s s' : S} (h : s = s') (he : e = e') : stepS P rl I e o s K Kp = stepS P rl I e' o s' K Kp := by rw [h, he]
@[congr] theorem CallS_congr {f f' : D} {a a' : List D} {so : Prop} {g : Option (Nat × Bool)} {dst : Option Tmp} (h : f = f') (h2 : a = a') : CallS P rl I e f a so g dst s K Kp = CallS P rl I e f' a' so g dst s K Kp := by rw [h, h2]
@[congr] theorem pickS_congr {c c' x x' y y' : D} {g : Option (Nat × Bool)} {dst : Option Tmp} (h : c = c') (h2 : x = x') (h3 : y = y') : pickS e g dst c x y s K = pickS e g dst c' x' y' s K := by rw [h, h2, h3]
@[congr] theorem W_congr {c : Code} {Q : X → S → Prop} {s s' : S} (h : s = s') : W P rl I c Q s = W P rl I c Q s' := by rw [h]
end

attribute [simp ↓] stepS.eq_def quietS_eq bigS_eq pickS_eq runK_run runK_skip quietK_some quietK_none bigK_some optK_some seqH_nil
attribute [simp] seqH_step ev_eq hAt guardS.eq_def noPanic.eq_def boolOf.eq_def pickV.eq_def mkd.eq_def valS.eq_def oblS.eq_def bigL.eq_def bigO.eq_def loadV.eq_def loadO.eq_def cellsAt.eq_def indexAddrV.eq_def indexAddrO.eq_def indexV.eq_def indexO.eq_def sliceV.eq_def sliceO.eq_def bndO.eq_def lenV.eq_def binV.eq_def
  binO.eq_def callV.eq_def convV.eq_def convO.eq_def nilV.eq_def nilE.eq_def fieldAddrV.eq_def elemTI.eq_def Op.operands.eq_def Call.operands.eq_def S.val.eq_def S.uv.eq_def S.put.eq_def S.room.eq_def S.H.eq_def ungd.eq_def gobl.eq_def strictO lk up ldel get_toT argsL start.eq_def leavesK.eq_def takeL resV resO packD.eq_def X.then.eq_def X.inBlock.eq_def
  constD.eq_def cellsD.eq_def okX.eq_def Aw.litB.eq_def Aw.TI.agg.eq_def Aw.TK.agg.eq_def binI.eq_def unE.eq_def eqRes.eq_def
end Go.Ev
