/-
  The engine beside a table of calls that are reckoned.
-/
import Derived.Test.YtgpmcnakeeahbabGreatEvP
namespace Go.Ev
open Go.Aw (enters litOk)

def kvEqb : Value → Value → Bool
  | .agg a, .agg b => vsEqb a.toList b.toList
  | a, b => vEqb a b

theorem kvEqb_eq {a b : Value} (h : kvEqb a b = true) : a = b := by
  unfold kvEqb at h
  split at h
  · congr 1
    exact Array.ext' (vsEqb_eq _ _ h)
  · exact vEqb_eq h

def kEqb : List (Value × D) → List (Value × D) → Bool
  | [], [] => true
  | a :: l, b :: m => kvEqb a.1 b.1 && (dEqb a.2 b.2 && kEqb l m)
  | _, _ => false

theorem kEqb_eq : ∀ (a b : List (Value × D)), kEqb a b = true → a = b
  | [], b, h => by cases b <;> simp only [kEqb, Bool.false_eq_true] at h; rfl
  | (k, d) :: l, b, h => by
    cases b <;> simp only [kEqb, Bool.false_eq_true, Bool.and_eq_true] at h
    rename_i b m
    obtain ⟨k', d'⟩ := b
    rw [kvEqb_eq h.1, dEqb_eq _ _ h.2.1, kEqb_eq _ _ h.2.2]

def oEqb : Option Nat → Option Nat → Bool
  | none, none => true
  | some a, some b => Nat.beq a b
  | _, _ => false

theorem oEqb_eq {a b : Option Nat} (h : oEqb a b = true) : a = b := by
  cases a <;> cases b <;> simp only [oEqb, Bool.false_eq_true] at h
  · rfl
  · rw [Nat.eq_of_beq_eq_true h]

def blkEqb : Blk → Blk → Bool
  | .cells t o ds, .cells t' o' ds' => Nat.beq t t' && (oEqb o o' && lEqb ds ds')
  | .dfr, .dfr => true
  | .map es, .map es' => kEqb es es'
  | _, _ => false

theorem blkEqb_eq {a b : Blk} (h : blkEqb a b = true) : a = b := by
  cases a <;> cases b <;> simp only [blkEqb, Bool.false_eq_true, Bool.and_eq_true] at h
  · rw [Nat.eq_of_beq_eq_true h.1, oEqb_eq h.2.1, lEqb_eq _ _ h.2.2]
  · rfl
  · rw [kEqb_eq _ _ h]

/-- A call that is reckoned: of what, in what memory, and what comes of it. -/
structure Ent where
  g : FuncId
  args : List D
  hp : List (Nat × Blk)
  nx : Nat
  d : D
  hp' : List (Nat × Blk)
  nx' : Nat

def ofL : List (Nat × Blk) → T Blk
  | [] => .e
  | (l, k) :: r => (ofL r).set l k

def hasL (h : H) (nx : Nat) : List (Nat × Blk) → Bool
  | [] => Nat.beq h.nx nx
  | (l, k) :: r => (match h.hp.get l with
    | some k' => blkEqb k' k
    | none => false) && hasL h nx r

theorem hasL_get {h : H} {nx : Nat} : ∀ (l : List (Nat × Blk)), hasL h nx l = true → h.nx = nx ∧ ∀ i k, (ofL l).get i = some k → h.hp.get i = some k
  | [], hh => ⟨Nat.eq_of_beq_eq_true hh, fun i k e => by simp [ofL, T.get] at e⟩
  | (j, q) :: r, hh => by
    simp only [hasL, Bool.and_eq_true] at hh
    obtain ⟨h1, h2⟩ := hasL_get r hh.2
    refine ⟨h1, fun i k e => ?_⟩
    simp only [ofL, T.get_set] at e
    split at e
    · rename_i hji
      subst hji
      cases e
      have := hh.1
      split at this
      · rename_i k' hk'
        rw [hk', blkEqb_eq this]
      · cases this
    · exact h2 i k e

theorem RH.has {M : Mem} {h : H} {w : World} (hr : RH M h w) {nx : Nat} {l : List (Nat × Blk)} (hh : hasL h nx l = true) : RH M { hp := ofL l, nx := nx } w :=
  ⟨hr.inv, fun i k e => hr.hp i k ((hasL_get l hh).2 i k e), (hasL_get l hh).1.symm.trans hr.nx⟩

def tab : List Ent → CF
  | [], _, _, _ => none
  | e :: r, g, args, h => bif Nat.beq g e.g && (lEqb args e.args && hasL h e.nx e.hp) then some (e.d, { hp := ofL e.hp', nx := e.nx' }) else tab r g args h

def EntOk (P : Program) (e : Ent) : Prop := enters P e.g = true ∧ ∀ M w vs, RH M { hp := ofL e.hp, nx := e.nx } w → argsOk M e.args vs → Calls P e.g vs w (Post M w e.d { hp := ofL e.hp', nx := e.nx' })

theorem tab_ok {P : Program} : ∀ (l : List Ent), (∀ e ∈ l, EntOk P e) → SF P (tab l)
  | [], _, _, _, _, _, _, h => by cases h
  | e :: r, hl, g, args, h, d, h', he => by
    simp only [tab] at he
    rw [cond_eq_ite] at he
    split at he
    · rename_i hc
      simp only [Bool.and_eq_true] at hc
      have hg := Nat.eq_of_beq_eq_true hc.1
      subst hg
      have ha := lEqb_eq _ _ hc.2.1
      subst ha
      cases he
      obtain ⟨h1, h2⟩ := hl e (by simp)
      exact .inl ⟨h1, fun M w vs hr hvs => h2 M w vs (hr.has hc.2.2) hvs⟩
    · exact tab_ok r (fun q hq => hl q (by simp [hq])) g args h d h' he

def orT (tb cf : CF) : CF := fun g args h => match tb g args h with
  | some r => some r
  | none => cf g args h

theorem orT_ok {P : Program} {tb cf : CF} (h1 : SF P tb) (h2 : SF P cf) : SF P (orT tb cf) := by
  intro g args h d h' he
  unfold orT at he
  split at he
  · rename_i r hr; cases he; exact h1 _ _ _ _ _ hr
  · exact h2 _ _ _ _ _ he

def engT (P : Program) (ex tb : CF) (N : Nat) : Nat → CF × YE
  | 0 => (fun _ _ _ => none, fun _ _ _ => none)
  | n + 1 => (orT tb (evalF P ex (engT P ex tb N n).1 (engT P ex tb N n).2 (drawE P (engT P ex tb N n).1 (engT P ex tb N n).2) N), evalY P (engT P ex tb N n).1 (engT P ex tb N n).2 (drawE P (engT P ex tb N n).1 (engT P ex tb N n).2) N)

theorem engT_ok {P : Program} {ex tb : CF} (hex : SX P ex) (htb : SF P tb) (N : Nat) : ∀ n, SF P (engT P ex tb N n).1 ∧ SY P (engT P ex tb N n).2
  | 0 => ⟨fun _ _ _ _ _ h => (by cases h), fun _ _ _ _ _ h => (by cases h)⟩
  | n + 1 => by
    obtain ⟨h1, h2⟩ := engT_ok hex htb N n
    exact ⟨orT_ok htb (evalF_ok hex h1 h2 (draw_ok h1 h2) N), evalY_ok h1 h2 (draw_ok h1 h2) N⟩

def chk (cf : CF) (e : Ent) : Bool :=
  match cf e.g e.args { hp := ofL e.hp, nx := e.nx } with
  | some (d, h) => dEqb d e.d && hasL h e.nx' e.hp'
  | none => false

theorem ent_ok {P : Program} {cf : CF} (hcf : SF P cf) {e : Ent} (hen : enters P e.g = true) (hc : chk cf e = true) : EntOk P e := by
  refine ⟨hen, fun M w vs hr hvs => ?_⟩
  unfold chk at hc
  split at hc
  case h_2 => cases hc
  rename_i d h hcall
  simp only [Bool.and_eq_true] at hc
  rcases hcf _ _ _ _ _ hcall with ⟨_, h1⟩ | ⟨h1, _⟩
  · refine (h1 M w vs hr hvs).mono ?_
    rintro x w' ⟨v, M', rfl, g1, g2, g3⟩
    exact ⟨v, M', rfl, g1.has hc.2, dEqb_eq _ _ hc.1 ▸ g2, g3⟩
  · rw [hen] at h1; cases h1

/-- A call without arguments that tells a letter, in whatever memory. -/
def PurOk (P : Program) (g : FuncId) (v : Value) : Prop := enters P g = true ∧ litOk v ∧ ∀ W, Calls P g #[] W fun e W' => e = .returned v ∧ ∃ M', Ext (Mem.none fun _ => Option.none) W M' W'

theorem pur_ok {P : Program} {e : Ent} (h : EntOk P e) {v : Value} (ha : e.args = []) (hh : e.hp = []) (hn : e.nx = 0) (hd : e.d = .lit v) (hv : litOk v) : PurOk P e.g v := by
  refine ⟨h.1, hv, fun W => (h.2 (Mem.none fun _ => Option.none) W #[] ?_ ?_).mono ?_⟩
  · rw [hh, hn]
    exact ⟨⟨fun _ _ _ _ _ e => (by cases e), fun _ _ _ e => (by cases e), fun _ _ _ e => (by cases e), fun _ _ e => (by cases e), fun _ _ e => (by cases e)⟩, fun _ _ e => (by simp [ofL, T.get] at e), rfl⟩
  · rw [ha]; exact ⟨rfl, fun i d hi => by simp at hi⟩
  · rintro x W' ⟨u, M', rfl, _, h2, h3⟩
    rw [hd] at h2
    rw [h2.litE]
    exact ⟨rfl, M', h3⟩

def pur : List (FuncId × Value) → CF
  | [], _, _, _ => none
  | (k, v) :: r, g, args, h => bif Nat.beq g k && args.isEmpty then some (.lit v, h) else pur r g args h

theorem purs_ok {P : Program} : ∀ (l : List (FuncId × Value)), (∀ p ∈ l, PurOk P p.1 p.2) → SF P (pur l)
  | [], _, _, _, _, _, _, h => by cases h
  | (k, v) :: r, hl, g, args, h, d, h', he => by
    simp only [pur] at he
    rw [cond_eq_ite] at he
    split at he
    · rename_i hc
      simp only [Bool.and_eq_true, List.isEmpty_iff] at hc
      have hg := Nat.eq_of_beq_eq_true hc.1
      have ha := hc.2
      subst hg ha
      cases he
      obtain ⟨h1, h2, h3⟩ := hl (g, v) (by simp)
      refine .inl ⟨h1, fun M w vs hr hvs => ?_⟩
      have hvs : vs = #[] := Array.eq_empty_of_size_eq_zero (by simpa using hvs.1)
      subst hvs
      refine (h3 w).mono ?_
      rintro x W' ⟨rfl, M', hE⟩
      have keep : ∀ b, b < w.heap.size → W'.heap[b]? = w.heap[b]? := fun b hb => hE.keep b hb (fun _ _ e => by cases e)
      refine ⟨v, M, rfl, ⟨⟨hr.inv.inj, fun l b c e => Nat.lt_of_lt_of_le (hr.inv.lt l b c e) hE.size, hr.inv.nx, fun b c e => ?_, hr.inv.sep⟩, fun l k e => (hr.hp l k e).mono (.refl M) (fun b c e2 => keep b (hr.inv.lt l b c e2)), hr.nx⟩, .lit _ h2,
        ⟨hE.os, hE.tape, hE.output, hE.size, fun b hb _ => keep b hb, fun l b c e => .inl ⟨l, c, e⟩, Nat.le_refl _, fun _ _ => .inl rfl, fun _ _ e => e, fun _ _ e => .inl e, fun _ _ e => e⟩⟩
      obtain ⟨ty, fr, e2⟩ := hr.inv.fz b c e
      exact ⟨ty, fr, (keep b (Array.getElem?_eq_some_iff.1 e2).1).trans e2⟩
    · exact purs_ok r (fun q hq => hl q (by simp [hq])) g args h d h' he

/-- A call of which the engine tells 'true'. -/
theorem calls_trueT {P : Program} {ex tb : CF} (hex : SX P ex) (htb : SF P tb) {N n : Nat} {g : FuncId} {args : List D} (hen : Aw.enters P g = true)
    (ht : (match (engT P ex tb N n).1 g args { hp := .e, nx := 0 } with | some (.lit (.bool b), _) => b | _ => false) = true)
    {W : World} {vs : Array Value} (hv : argsOk (Mem.none fun _ => Option.none) args vs) : Calls P g vs W fun e W' => e = .returned (.bool true) ∧ ∀ may, W.keptBut W' may := by
  split at ht
  · rename_i b h' he
    subst ht
    rcases (engT_ok hex htb N n).1 _ _ _ _ _ he with ⟨_, h⟩ | ⟨h, _⟩
    · refine (h _ W vs ⟨⟨fun _ _ _ _ _ e => (by cases e), fun _ _ _ e => (by cases e), fun _ _ _ e => (by cases e), fun _ _ e => (by cases e), fun _ _ e => (by cases e)⟩, fun _ _ e => (by simp [T.get] at e), rfl⟩ hv).mono ?_
      rintro e W' ⟨v, M', rfl, _, h2, h3⟩
      cases h2
      exact ⟨rfl, fun may => keptBut_of_ext h3 may⟩
    · rw [hen] at h; cases h
  · cases ht
end Go.Ev
