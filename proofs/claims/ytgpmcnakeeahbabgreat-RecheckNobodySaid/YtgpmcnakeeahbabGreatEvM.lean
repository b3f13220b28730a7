/-
  Maps with texts as keys.
-/
import Derived.Test.YtgpmcnakeeahbabGreatEvY
import Derived.MapKept
namespace Go.Ev
open Go.Aw (litOk TI tiOf TIs tiOf_spec halloc_old halloc_new eqGuard_ok)

theorem R.litE {M : Mem} {v u : Value} (h : R M (.lit v) u) : u = v := by cases h; rfl

def vEqb : Value → Value → Bool
  | .bool a, .bool b => a == b
  | .int k a, .int k' b => decide (k = k') && decide (a = b)
  | .string a, .string b => decide (a.data.toList = b.data.toList)
  | .pointer none, .pointer none => true
  | .slice none 0 0, .slice none 0 0 => true
  | .nilFunc, .nilFunc => true
  | .nilIface, .nilIface => true
  | .map none, .map none => true
  | _, _ => false

theorem vEqb_eq {a b : Value} (h : vEqb a b = true) : a = b := by
  unfold vEqb at h
  split at h
  · rw [eq_of_beq h]
  · simp only [Bool.and_eq_true, decide_eq_true_eq] at h
    rw [h.1, h.2]
  · simp only [decide_eq_true_eq] at h
    congr 1
    exact ByteArray.ext (Array.ext' h)
  · rfl
  · rfl
  · rfl
  · rfl
  · rfl
  · cases h

def dV : Value → D
  | .agg cs => .agg (cs.toList.map .lit)
  | v => .lit v

theorem dV_R {M : Mem} {v : Value} (h : keyOk v) : R M (dV v) v := by
  cases v <;> first | exact .lit _ h | skip
  rename_i cs
  have h : ∀ c ∈ cs.toList, litOk c := h
  have get : ∀ (i : Nat) d, (cs.toList.map D.lit)[i]? = some d → ∃ c, cs[i]? = some c ∧ d = .lit c ∧ litOk c := fun i d hi => by
    simp only [List.getElem?_map, Array.getElem?_toList, Option.map_eq_some_iff] at hi
    obtain ⟨c, hc, rfl⟩ := hi
    exact ⟨c, hc, rfl, h c (by rw [Array.mem_toList_iff]; exact Array.mem_of_getElem? hc)⟩
  refine .agg _ _ (by simp) (fun i d hi => ?_) (fun i d hi => ?_)
  · obtain ⟨c, hc, rfl, ho⟩ := get i d hi
    rw [show cs.getD i undef = c by simp [Array.getD_eq_getD_getElem?, hc]]
    exact lit_one ho
  · obtain ⟨c, hc, rfl, ho⟩ := get i d hi
    rw [show cs.getD i undef = c by simp [Array.getD_eq_getD_getElem?, hc]]
    exact .lit _ ho

def litsOf : List D → Option (List Value)
  | [] => some []
  | .lit v :: r => (litsOf r).map (v :: ·)
  | _ => none

def keyVal : D → Option Value
  | .lit v => some v
  | .agg l => (litsOf l).map fun l => .agg l.toArray
  | _ => none

theorem litsOf_ok {M : Mem} : ∀ (l : List D) (vs : List Value), litsOf l = some vs → l.length = vs.length ∧ ∀ (i : Nat) v, vs[i]? = some v → l[i]? = some (.lit v)
  | [], vs, h => by simp only [litsOf, Option.some.injEq] at h; subst h; exact ⟨rfl, by simp⟩
  | d :: r, vs, h => by
    cases d <;> simp only [litsOf, reduceCtorEq] at h
    rename_i v
    simp only [Option.map_eq_some_iff] at h
    obtain ⟨q, h1, rfl⟩ := h
    obtain ⟨g1, g2⟩ := litsOf_ok (M := M) r q h1
    refine ⟨by simp [g1], fun i x hi => ?_⟩
    cases i with
    | zero => simpa using hi
    | succ i => simpa using g2 i x (by simpa using hi)

theorem keyVal_ok {M : Mem} {k : D} {s u : Value} (h : keyVal k = some s) (hu : R M k u) : u = s ∧ keyOk s := by
  unfold keyVal at h
  split at h
  · cases h
    cases hu with
    | lit v ho => exact ⟨rfl, by cases s <;> first | exact ho | exact ho.elim⟩
  · rename_i l
    simp only [Option.map_eq_some_iff] at h
    obtain ⟨vs, h1, rfl⟩ := h
    obtain ⟨g1, g2⟩ := litsOf_ok (M := M) l vs h1
    cases hu with
    | agg _ cs hs h2 h3 =>
    have at_ : ∀ (i : Nat) v, vs[i]? = some v → cs.getD i undef = v ∧ litOk v := fun i v hi => by
      have := h3 i _ (g2 i v hi)
      cases hr : this
      rename_i ho
      exact ⟨this.litE, ho⟩
    refine ⟨?_, fun c hc => ?_⟩
    · congr 1
      apply Array.ext
      · rw [hs, g1]; simp
      · intro i hi hj
        simp only [List.size_toArray] at hj
        have := (at_ i _ (List.getElem?_eq_getElem hj)).1
        simpa [Array.getD, hi] using this
    · simp only [List.mem_toArray, Array.mem_toList_iff] at hc
      obtain ⟨i, hi, rfl⟩ := List.getElem_of_mem hc
      exact (at_ i _ (List.getElem?_eq_getElem hi)).2
  · cases h

def vsEqb : List Value → List Value → Bool
  | [], [] => true
  | a :: r, b :: q => vEqb a b && vsEqb r q
  | _, _ => false

theorem vsEqb_eq : ∀ (a b : List Value), vsEqb a b = true → a = b
  | [], b, h => by cases b <;> simp only [vsEqb, Bool.false_eq_true] at h; rfl
  | a :: r, b, h => by
    cases b <;> simp only [vsEqb, Bool.false_eq_true, Bool.and_eq_true] at h
    rw [vEqb_eq h.1, vsEqb_eq _ _ h.2]

def aggEqb : Value → Value → Bool
  | .agg a, .agg b => vsEqb a.toList b.toList
  | _, _ => false

theorem aggEqb_eq {a b : Value} (h : aggEqb a b = true) : a = b := by
  cases a <;> cases b <;> simp only [aggEqb, Bool.false_eq_true] at h
  rw [Array.ext' (vsEqb_eq _ _ h)]

def bytesEqb (a b : ByteArray) : Bool := decide (a.data.toList = b.data.toList)

theorem bytesEqb_iff {a b : ByteArray} : bytesEqb a b = true ↔ a = b := by
  unfold bytesEqb
  simp only [decide_eq_true_eq]
  exact ⟨fun h => ByteArray.ext (Array.ext' h), fun h => by rw [h]⟩

/-- Where a key stands, and what stands there. -/
def eqK : Value → Value → Option Bool
  | .string a, .string b => some (bytesEqb a b)
  | .int k a, .int k' b => bif decide (k = k') then some (decide (a = b)) else none
  | _, _ => none

def litKey : TypeDesc → Value → Bool
  | .string, .string _ => true
  | .int j, .int j' _ => decide (j = j')
  | _, _ => false

theorem litKey_is {d : TypeDesc} {k : Value} (h : litKey d k = true) : MapKept.IsKey d k := by
  unfold litKey at h
  split at h
  · trivial
  · simp only [decide_eq_true_eq] at h
    exact h.symm
  · cases h

theorem eqK_same {d : TypeDesc} {k v : Value} {b : Bool} (hk : litKey d k = true) (h : eqK k v = some b) : Instr.sameNow d k v = some b ∧ (b = true → k = v) := by
  unfold eqK at h
  split at h
  · rename_i x y
    cases h
    unfold litKey at hk
    split at hk
    · rename_i z hz
      cases hz
      have : (x == y) = bytesEqb x y := by
        cases hb : bytesEqb x y with
        | true => exact (MapKept.bytes_beq x y).2 (bytesEqb_iff.1 hb)
        | false =>
          cases hc : (x == y) with
          | false => rfl
          | true => have := bytesEqb_iff.2 ((MapKept.bytes_beq x y).1 hc); rw [hb] at this; cases this
      exact ⟨by show some (x == y) = _; rw [this], fun hb => by rw [bytesEqb_iff.1 hb]⟩
    · rename_i hz; cases hz
    · cases hk
  · rename_i k1 x k2 y
    obtain ⟨hkk, h2⟩ := bif_some h
    clear h
    simp only [decide_eq_true_eq] at hkk
    subst hkk
    cases h2
    unfold litKey at hk
    split at hk
    · rename_i hz; cases hz
    · rename_i hz
      cases hz
      refine ⟨?_, fun hb => by rw [of_decide_eq_true hb]⟩
      show (if k1 = k1 then some (x == y) else none) = _
      rw [if_pos rfl]
      rfl
    · cases hk
  · cases h

def findI (k : Value) : List (Value × D) → Nat → Option (Option (Nat × D))
  | [], _ => some none
  | (v, d) :: r, i => (match eqK k v with
    | some true => some (some (i, d))
    | some false => findI k r (i + 1)
    | none => none)

/-- Entries stand for data. -/
def EsR (M : Mem) (es : List (Value × D)) (l : List MapEntry) : Prop := l.length = es.length ∧ ∀ (i : Nat) p, es[i]? = some p → ∃ e, l[i]? = some e ∧ e.key = p.1 ∧ R M p.2 e.val

theorem findI_ok {M : Mem} {d : TypeDesc} (k : Value) (hk : litKey d k = true) : ∀ (es : List (Value × D)) (l : List MapEntry) (i : Nat) (r : Option (Nat × D)), findI k es i = some r → EsR M es l →
    ∃ q, Instr.findNow d k l i = some q ∧ (match r with
      | none => q = none
      | some (j, x) => ∃ v e, q = some (j, v) ∧ R M x v ∧ i ≤ j ∧ j < i + es.length ∧ l[j - i]? = some e ∧ e.key = k)
  | [], l, i, r, h, hl => by
    simp only [findI, Option.some.injEq] at h
    subst h
    have : l = [] := List.eq_nil_of_length_eq_zero hl.1
    subst this
    exact ⟨none, rfl, rfl⟩
  | (s, x) :: es, l, i, r, h, hl => by
    simp only [findI] at h
    obtain ⟨hlen, hl⟩ := hl
    cases l with
    | nil => simp at hlen
    | cons e l =>
    obtain ⟨e', q1, q2, q3⟩ := hl 0 _ rfl
    simp only [List.getElem?_cons_zero, Option.some.injEq] at q1
    subst q1
    simp only at q2 q3
    split at h
    · rename_i hb
      obtain ⟨hs, hv⟩ := eqK_same hk hb
      rw [← q2] at hs
      have hv := hv rfl
      cases h
      exact ⟨some (i, e.val), by simp [Instr.findNow, hs], e.val, e, rfl, q3, Nat.le_refl _, by simp, by simp, q2.trans hv.symm⟩
    · rename_i hb
      obtain ⟨hs, _⟩ := eqK_same hk hb
      rw [← q2] at hs
      obtain ⟨q, g1, g2⟩ := findI_ok k hk es l (i + 1) r h ⟨by simpa using hlen, fun j p hp => by have := hl (j + 1) p (by simpa using hp); simpa using this⟩
      refine ⟨q, by simp [Instr.findNow, hs, g1], ?_⟩
      cases r with
      | none => exact g2
      | some p =>
        obtain ⟨j, d'⟩ := p
        obtain ⟨v, e2, a1, a2, a3, a4, a5, a6⟩ := g2
        refine ⟨v, e2, a1, a2, by omega, by simp; omega, ?_, a6⟩
        rw [show j - i = (j - (i + 1)) + 1 by omega]
        simpa using a5
    · cases h

/-! ### Structs of letters as keys -/
def findA (P : Program) (kt : TypeId) (k : Value) : List (Value × D) → Nat → Option (Option (Nat × D))
  | [], _ => some none
  | (v, d) :: r, i => (match eqIn P 10 kt (dV k) (dV v) with
    | some true => bif aggEqb k v then some (some (i, d)) else none
    | some false => findA P kt k r (i + 1)
    | none => none)

theorem findA_ok {P : Program} {M : Mem} {w : World} {kt : TypeId} (k : Value) (hk : keyOk k) : ∀ (es : List (Value × D)) (l : List MapEntry) (i : Nat) (r : Option (Nat × D)), findA P kt k es i = some r → EsR M es l → (∀ (i : Nat) p, es[i]? = some p → keyOk p.1) →
    ∃ q, (Instr.findAsking kt k l i).run P w = .ok q w ∧ (match r with
      | none => q = none
      | some (j, x) => ∃ v e, q = some (j, v) ∧ R M x v ∧ i ≤ j ∧ j < i + es.length ∧ l[j - i]? = some e ∧ e.key = k)
  | [], l, i, r, h, hl, _ => by
    simp only [findA, Option.some.injEq] at h
    subst h
    have : l = [] := List.eq_nil_of_length_eq_zero hl.1
    subst this
    exact ⟨none, rfl, rfl⟩
  | (s, x) :: es, l, i, r, h, hl, ho => by
    simp only [findA] at h
    obtain ⟨hlen, hl⟩ := hl
    cases l with
    | nil => simp at hlen
    | cons e l =>
    obtain ⟨e', q1, q2, q3⟩ := hl 0 _ rfl
    simp only [List.getElem?_cons_zero, Option.some.injEq] at q1
    subst q1
    simp only at q2 q3
    have run : ∀ b, eqIn P 10 kt (dV k) (dV s) = some b → (Op.equal kt k e.key).run P w = .ok b w := fun b hb => by
      rw [q2]
      exact eqIn_ok (M := M) 10 10000 (by omega) kt _ _ b k s hb (dV_R hk) (dV_R (ho 0 _ rfl))
    split at h
    · rename_i hb
      obtain ⟨hv, h⟩ := bif_some h
      have hv := aggEqb_eq hv
      cases h
      exact ⟨some (i, e.val), by simp [Instr.findAsking, run _ hb, Result.andThen], e.val, e, rfl, q3, Nat.le_refl _, by simp, by simp, q2.trans hv.symm⟩
    · rename_i hb
      obtain ⟨q, g1, g2⟩ := findA_ok (w := w) k hk es l (i + 1) r h ⟨by simpa using hlen, fun j p hp => by have := hl (j + 1) p (by simpa using hp); simpa using this⟩ (fun j p hp => ho (j + 1) p (by simpa using hp))
      refine ⟨q, by simp [Instr.findAsking, run _ hb, Result.andThen, g1], ?_⟩
      cases r with
      | none => exact g2
      | some p =>
        obtain ⟨j, d'⟩ := p
        obtain ⟨v, e2, a1, a2, a3, a4, a5, a6⟩ := g2
        refine ⟨v, e2, a1, a2, by omega, by simp; omega, ?_, a6⟩
        rw [show j - i = (j - (i + 1)) + 1 by omega]
        simpa using a5
    · cases h

/-- The fields of a struct that is a key. -/
def fieldsOk (P : Program) (l : List D) : List Field → Bool
  | [] => true
  | f :: r => !(f.name == "_") && ((match tiOf P f.type, P.underlying f.type with
    | some ti, some d => (match partE ti l f.offset with
      | some (.lit v) => litKey d v
      | _ => false)
    | _, _ => false) && fieldsOk P l r)

theorem fields_run {P : Program} {M : Mem} {w : World} {l : List D} {cs : Array Value} (hR : R M (.agg l) (.agg cs)) (em : Bool) (n : Nat) : ∀ fs : List Field, fieldsOk P l fs = true →
    (forIn fs PUnit.unit fun (f : Field) (_ : PUnit) => (do
      if f.name ≠ "_" then Instr.checkKey em (n + 1) f.type (← part f.type cs f.offset)
      pure (ForInStep.yield PUnit.unit) : Sem (ForInStep PUnit))).run P w = .ok PUnit.unit w
  | [], _ => by simp
  | f :: r, h => by
    simp only [fieldsOk, Bool.and_eq_true, Bool.not_eq_true'] at h
    obtain ⟨hn, hm, hr⟩ := h
    have hn : f.name ≠ "_" := by simpa using hn
    split at hm
    case h_2 => cases hm
    rename_i ti d hti hd
    split at hm
    case h_2 => cases hm
    rename_i v hv
    obtain ⟨i, dd, z, ht⟩ := tiOf_spec hti
    cases hR with
    | agg _ _ hs h1 h2 =>
    obtain ⟨va, e1, e2⟩ := part_ok ht w hs h1 h2 hv
    have := e2.litE
    subst this
    have p2 := MapKept.run_checkKey (w := w) hd (litKey_is hm) em n
    have ih := fields_run (w := w) (.agg _ _ hs h1 h2) em n r hr
    simp only [List.forIn_cons, Sem.run_bind, hn, ne_eq, not_false_eq_true, if_true, Result.andThen_ok, e1, p2, Sem.run_pure]
    exact ih

def letterB : Value → Bool
  | .bool _ => true
  | .int _ _ => true
  | .string _ => true
  | _ => false

theorem letter_same {v : Value} (h : letterB v = true) (n : Nat) : Instr.sameBits n v v = true := by
  cases v <;> simp only [letterB, Bool.false_eq_true] at h
  · cases n <;> simp [Instr.sameBits]
  · cases n <;> simp [Instr.sameBits]
  · rename_i s
    have : (s == s) = true := (MapKept.bytes_beq s s).2 rfl
    cases n <;> simp [Instr.sameBits, this]

theorem zip_same (n : Nat) : ∀ l : List Value, l.all letterB = true → ((l.zip l).all fun (x, y) => Instr.sameBits n x y) = true
  | [], _ => rfl
  | v :: l, h => by
    simp only [List.all_cons, Bool.and_eq_true] at h
    simp only [List.zip_cons_cons, List.all_cons, letter_same h.1, zip_same n l h.2, Bool.and_self]

theorem agg_stays {P : Program} {w : World} {cs : Array Value} (h : cs.toList.all letterB = true) : (Instr.keyThatStays (.agg cs) (.agg cs)).run P w = .ok (.agg cs) w := by
  have : Instr.sameBits (9999 + 1) (.agg cs) (.agg cs) = true := by
    show (cs.size == cs.size && (cs.toList.zip cs.toList).all fun (x, y) => Instr.sameBits 9999 x y) = true
    rw [zip_same 9999 _ h]
    simp
  unfold Instr.keyThatStays
  rw [show (10000 : Nat) = 9999 + 1 from rfl, this]
  rfl

/-- What a map asks of a key. -/
def keyE (P : Program) (kt : TypeId) (k : Value) : Bool :=
  match P.underlying kt with
  | some (.struct fs) => (match k with
    | .agg cs => fieldsOk P (cs.toList.map .lit) fs.toList && cs.toList.all letterB
    | _ => false)
  | some d => litKey d k
  | none => false

def findG (P : Program) (kt : TypeId) (k : Value) (es : List (Value × D)) : Option (Option (Nat × D)) :=
  match P.underlying kt with
  | some (.struct _) => findA P kt k es 0
  | _ => findI k es 0
theorem findG_ok {P : Program} {M : Mem} {w : World} {kt : TypeId} {k : Value} {es : List (Value × D)} {l : List MapEntry} {r : Option (Nat × D)} (hk : keyE P kt k = true) (ho : keyOk k) (hE : EsR M es l) (hko : ∀ (i : Nat) p, es[i]? = some p → keyOk p.1) (h : findG P kt k es = some r) :
    (∀ e, (Instr.checkKey e 10000 kt k).run P w = .ok () w) ∧ (Instr.keyThatStays k k).run P w = .ok k w ∧ ∃ q, (Instr.findKey kt k l).run P w = .ok q w ∧ (match r with
      | none => q = none
      | some (j, x) => ∃ v e, q = some (j, v) ∧ R M x v ∧ j < es.length ∧ l[j]? = some e ∧ e.key = k) := by
  have lits : ∀ d, P.underlying kt = some d → litKey d k = true → findI k es 0 = some r → (∀ e, (Instr.checkKey e 10000 kt k).run P w = .ok () w) ∧ (Instr.keyThatStays k k).run P w = .ok k w ∧ ∃ q, (Instr.findKey kt k l).run P w = .ok q w ∧ (match r with
      | none => q = none
      | some (j, x) => ∃ v e, q = some (j, v) ∧ R M x v ∧ j < es.length ∧ l[j]? = some e ∧ e.key = k) := by
    intro d hd hl hf
    refine ⟨fun e => MapKept.run_checkKey hd (litKey_is hl) e 9999, MapKept.run_keyThatStays (litKey_is hl), ?_⟩
    obtain ⟨q, g1, g2⟩ := findI_ok (M := M) k hl es l 0 r hf hE
    refine ⟨q, MapKept.run_findKey hd g1, ?_⟩
    cases r with
    | none => exact g2
    | some p =>
      obtain ⟨j, x⟩ := p
      obtain ⟨v, e, a1, a2, _, a4, a5, a6⟩ := g2
      exact ⟨v, e, a1, a2, by omega, by simpa using a5, a6⟩
  unfold keyE at hk
  unfold findG at h
  split at hk
  · rename_i fs hd
    split at hk
    case h_2 => cases hk
    rename_i cs
    simp only [Bool.and_eq_true] at hk
    rw [hd] at h
    simp only at h
    refine ⟨fun e => ?_, agg_stays hk.2, ?_⟩
    · have e1 : Instr.checkKey e 10000 kt (.agg cs) = Instr.checkKey e (9999 + 1) kt (.agg cs) := rfl
      rw [e1, Instr.checkKey]
      simp only [Sem.run_bind, run_underlying hd, Result.andThen_ok]
      rw [← Array.forIn_toList]
      have := fields_run (M := M) (w := w) (dV_R ho) e 9998 fs.toList hk.1
      simp at this
      simp
      rw [this]
      rfl
    · obtain ⟨q, g1, g2⟩ := findA_ok (w := w) _ ho es l 0 r h hE hko
      refine ⟨q, ?_, ?_⟩
      · cases es with
        | nil =>
          have : l = [] := List.eq_nil_of_length_eq_zero hE.1
          subst this
          simp only [Instr.findAsking, Sem.run_pure] at g1
          cases g1
          simp [Instr.findKey, run_underlying hd, Result.andThen, Instr.findNow]
        | cons p es =>
          cases l with
          | nil => have := hE.1; simp at this
          | cons e l =>
            have : Instr.findNow (.struct fs) (.agg cs) (e :: l) 0 = none := rfl
            simp [Instr.findKey, run_underlying hd, Result.andThen, this, g1]
      · cases r with
        | none => exact g2
        | some p =>
          obtain ⟨j, x⟩ := p
          obtain ⟨v, e, a1, a2, _, a4, a5, a6⟩ := g2
          exact ⟨v, e, a1, a2, by omega, by simpa using a5, a6⟩
  · rename_i d hns hd
    refine lits d hd hk ?_
    rw [hd] at h
    split at h
    · rename_i fs hfs; cases hfs; exact absurd rfl (hns _)
    · exact h
  · cases hk

def zeroD (ti : TI) : Option D := bif ti.agg then some (.agg (ti.z.map zD)) else (match ti.z with
  | [y] => some (zD y)
  | _ => none)

theorem zeroD_ok {P : Program} {t : TypeId} {ti : TI} {i : TypeInfo} {d : TypeDesc} {z : Value} (ht : TIs P t ti i d z) {x : D} (hx : zeroD ti = some x) (M : Mem) (w : World) : (zeroValue t).run P w = .ok z w ∧ R M x z := by
  refine ⟨by simp [zeroValue, typeInfo, ht.info, ht.zero], ?_⟩
  obtain ⟨h1, h2⟩ := zeros_get ht M
  unfold zeroD at hx
  have hag := ht.ag
  cases ha : ti.agg with
  | true =>
    rw [ha] at hx hag
    cases hx
    cases z <;> simp only [Aw.isAggV, Bool.false_eq_true] at hag
    exact .agg _ _ h1 (fun i d hi => (h2 i d hi).1) (fun i d hi => (h2 i d hi).2)
  | false =>
    rw [ha] at hx hag
    simp only [cond_false] at hx
    split at hx
    case h_2 => cases hx
    rename_i y hy
    cases hx
    have := h2 0 (zD y) (by rw [hy]; rfl)
    have hz : z.cells.getD 0 undef = z := by cases z <;> first | rfl | simp [Aw.isAggV] at hag
    rw [hz] at this
    exact this.2

def pairOkD (c : Bool) (d : D) (b : Bool) : D := bif c then .tup [d, .lit (.bool b)] else d

def mapTI (P : Program) (t : TypeId) (k : Value) : Option (TI × TypeId) :=
  match P.underlying t with
  | some (.map kt et) => bif keyE P kt k then (tiOf P et).map (·, kt) else none
  | _ => none

def lookupE (P : Program) (h : H) (t : TypeId) (x k : D) (c : Bool) : Option D :=
  match keyVal k with
  | some s => (match mapTI P t s with
    | some (ti, kt) => (match x with
      | .lit (.map none) => (zeroD ti).map fun z => pairOkD c z false
      | .mp l => (match h.hp.get l with
        | some (.map es) => (match findG P kt s es with
          | some (some (_, d)) => some (pairOkD c d true)
          | some none => (zeroD ti).map fun z => pairOkD c z false
          | none => none)
        | _ => none)
      | _ => none)
    | none => none)
  | _ => none

theorem pairOk_R {M : Mem} {c : Bool} {d : D} {v : Value} (b : Bool) (h : R M d v) : R M (pairOkD c d b) (if c then .tuple #[v, .bool b] else v) := by
  cases c with
  | false => exact h
  | true =>
    refine .tup _ _ rfl (fun i x hi => ?_)
    match i, hi with
    | 0, hi => simp at hi; subst hi; exact h
    | 1, hi => simp at hi; subst hi; exact .lit _ trivial
    | i + 2, hi => simp at hi

theorem lookup_ok {P : Program} {M : Mem} {h : H} {w : World} (hr : RH M h w) {t : TypeId} {x k d : D} {c : Bool} (he : lookupE P h t x k c = some d) {v u : Value} (hv : R M x v) (hu : R M k u) : ∃ q, (Instr.lookup t v u c).run P w = .ok q w ∧ R M d q := by
  unfold lookupE at he
  split at he
  case h_2 => cases he
  rename_i s hs
  obtain ⟨rfl, hko⟩ := keyVal_ok hs hu
  split at he
  case h_2 => cases he
  rename_i ti kt hti
  unfold mapTI at hti
  split at hti
  case h_2 => cases hti
  rename_i kt' et hm
  obtain ⟨hke, hti2⟩ := bif_some hti
  clear hti
  simp only [Option.map_eq_some_iff, Prod.mk.injEq] at hti2
  obtain ⟨ti', hti, rfl, rfl⟩ := hti2
  obtain ⟨it, dt, zt, ht⟩ := tiOf_spec hti
  split at he
  · simp only [Option.map_eq_some_iff] at he
    obtain ⟨z, hz, rfl⟩ := he
    have hv := hv.litE
    subst hv
    obtain ⟨g1, g2⟩ := zeroD_ok ht hz M w
    refine ⟨_, ?_, pairOk_R false g2⟩
    have hfg : findG P kt' u [] = some none := by unfold findG; split <;> rfl
    obtain ⟨hck, _, q, hf, hq⟩ := findG_ok (M := M) (w := w) (l := []) hke hko ⟨rfl, fun i p hp => by simp at hp⟩ (fun i p hp => by simp at hp) hfg
    simp only at hq
    subst hq
    simp only [Instr.lookup, Sem.run_bind, run_underlying hm, Result.andThen_ok, Sem.run_pure, hck, hf, g1]
  · rename_i l
    split at he
    case h_2 => cases he
    rename_i es hl
    cases hv with
    | mp _ b ha =>
    obtain ⟨c0, _, arr, g2, g3, g4⟩ := hr.look hl ha
    have hes : EsR M es arr.toList := ⟨by simpa using g3, fun i p hp => by obtain ⟨e, q1, q2, q3, _⟩ := g4 i p hp; exact ⟨e, by simpa using q1, q2, q3⟩⟩
    have hkos : ∀ (i : Nat) p, es[i]? = some p → keyOk p.1 := fun i p hp => by obtain ⟨e, _, _, _, _, q⟩ := g4 i p hp; exact q
    split at he
    · rename_i j d0 hfi
      cases he
      obtain ⟨hck, _, q, hf, vv, e, rfl, k2, _⟩ := findG_ok (M := M) (w := w) hke hko hes hkos hfi
      refine ⟨_, ?_, pairOk_R true k2⟩
      simp only [Instr.lookup, Sem.run_bind, run_underlying hm, Result.andThen_ok, Sem.run_pure, MapKept.run_getObj_map g2, hck, hf]
    · rename_i hfi
      simp only [Option.map_eq_some_iff] at he
      obtain ⟨z, hz, rfl⟩ := he
      obtain ⟨hck, _, q, hf, hq⟩ := findG_ok (M := M) (w := w) hke hko hes hkos hfi
      simp only at hq
      subst hq
      obtain ⟨y1, y2⟩ := zeroD_ok ht hz M w
      refine ⟨_, ?_, pairOk_R false y2⟩
      simp only [Instr.lookup, Sem.run_bind, run_underlying hm, Result.andThen_ok, Sem.run_pure, MapKept.run_getObj_map g2, hck, hf, y1]
    · cases he
  · cases he

def mapUpdateE (P : Program) (h : H) (t : TypeId) (x k v : D) : Option H :=
  match keyVal k with
  | some s => (match mapTI P t s with
    | some (_, kt) => (match x with
      | .mp l => (match h.hp.get l with
        | some (.map es) => (match findG P kt s es with
          | some (some (j, _)) => some { h with hp := h.hp.set l (.map (es.set j (s, v))) }
          | some none => some { h with hp := h.hp.set l (.map (es ++ [(s, v)])) }
          | none => none)
        | _ => none)
      | _ => none)
    | none => none)
  | _ => none

theorem mapUpdate_ok {P : Program} {M : Mem} {h h' : H} {w : World} (hr : RH M h w) {t : TypeId} {x k d : D} (he : mapUpdateE P h t x k d = some h') {v u y : Value} (hv : R M x v) (hu : R M k u) (hy : R M d y) :
    ∃ w', (Instr.mapUpdate t v u y).run P w = .ok () w' ∧ RH M h' w' ∧ Ext M w M w' := by
  unfold mapUpdateE at he
  split at he
  case h_2 => cases he
  rename_i s hs
  obtain ⟨rfl, hsl⟩ := keyVal_ok hs hu
  split at he
  case h_2 => cases he
  rename_i ti kt hti
  unfold mapTI at hti
  split at hti
  case h_2 => cases hti
  rename_i kt' et hm
  obtain ⟨hke, hti2⟩ := bif_some hti
  clear hti
  simp only [Option.map_eq_some_iff, Prod.mk.injEq] at hti2
  obtain ⟨ti', hti, rfl, rfl⟩ := hti2
  split at he
  case h_2 => cases he
  rename_i l
  split at he
  case h_2 => cases he
  rename_i es hl
  cases hv with
  | mp _ b ha =>
  obtain ⟨c0, g1, arr, g2, g3, g4⟩ := hr.look hl ha
  have hes : EsR M es arr.toList := ⟨by simpa using g3, fun i p hp => by obtain ⟨e, q1, q2, q3, _⟩ := g4 i p hp; exact ⟨e, by simpa using q1, q2, q3⟩⟩
  have hkos : ∀ (i : Nat) p, es[i]? = some p → keyOk p.1 := fun i p hp => by obtain ⟨e, _, _, _, _, q⟩ := g4 i p hp; exact q
  have hlt : b < w.heap.size := (Array.getElem?_eq_some_iff.1 g2).1
  have fin : ∀ (arr' : Array MapEntry) (es' : List (Value × D)), (Instr.mapUpdate t (.map (some b)) u y).run P w = .ok () { w with heap := w.heap.setIfInBounds b (.map arr' es'.length) } →
      arr'.size = es'.length → (∀ (i : Nat) p, es'[i]? = some p → ∃ e, arr'[i]? = some e ∧ e.key = p.1 ∧ R M p.2 e.val ∧ e.born = i ∧ keyOk p.1) → h' = { h with hp := h.hp.set l (.map es') } →
      ∃ w', (Instr.mapUpdate t (.map (some b)) u y).run P w = .ok () w' ∧ RH M h' w' ∧ Ext M w M w' := by
    intro arr' es' h1 h2 h3 h4
    subst h4
    obtain ⟨k1, k2⟩ := hr.write (w' := { w with heap := w.heap.setIfInBounds b (.map arr' es'.length) }) g1 (.map es') rfl rfl rfl (by simp) (fun m hm => by simp [Array.getElem?_setIfInBounds_ne (Ne.symm hm)])
      ⟨arr', by simp [hlt], h2, h3⟩
    exact ⟨_, h1, k1, k2⟩
  split at he
  · rename_i j d0 hfi
    cases he
    obtain ⟨hck, hsb, q, hf, vv, e, rfl, k2, k4, k5, k6⟩ := findG_ok (M := M) (w := w) hke hsl hes hkos hfi
    have hj : arr[j]? = some e := by simpa using k5
    refine fin (arr.modify j fun e => { e with key := u, val := y }) (es.set j (u, d)) ?_ (by simp [g3]) (fun i p hp => ?_) rfl
    · rw [List.length_set]
      simp [Instr.mapUpdate, run_underlying hm, MapKept.run_getObj_map g2, hck, hf, hj, k6, hsb, MapKept.run_setObj_map _ g2, Result.andThen]
    · rw [List.getElem?_set] at hp
      by_cases hji : j = i
      · subst hji
        rw [if_pos rfl, if_pos k4] at hp
        cases hp
        obtain ⟨p0, hp0⟩ : ∃ p0, es[j]? = some p0 := ⟨_, List.getElem?_eq_getElem k4⟩
        obtain ⟨e', q1, _, _, q4, _⟩ := g4 j p0 hp0
        rw [hj] at q1
        cases q1
        exact ⟨{ e with key := u, val := y }, by simp [Array.getElem?_modify, hj], rfl, hy, q4, hsl⟩
      · rw [if_neg hji] at hp
        obtain ⟨e', q1, q2⟩ := g4 i p hp
        exact ⟨e', by rw [Array.getElem?_modify, if_neg hji]; exact q1, q2⟩
  · rename_i hfi
    cases he
    obtain ⟨hck, _, q, hf, k2⟩ := findG_ok (M := M) (w := w) hke hsl hes hkos hfi
    simp only at k2
    subst k2
    refine fin (arr.push { key := u, val := y, born := es.length }) (es ++ [(u, d)]) ?_ (by simp [g3]) (fun i p hp => ?_) rfl
    · rw [List.length_append]
      simp [Instr.mapUpdate, run_underlying hm, MapKept.run_getObj_map g2, hck, hf, MapKept.run_setObj_map _ g2, Result.andThen]
    · by_cases hi : i < es.length
      · rw [List.getElem?_append_left hi] at hp
        obtain ⟨e', q1, q2⟩ := g4 i p hp
        exact ⟨e', by rw [Array.getElem?_push, if_neg (by omega)]; exact q1, q2⟩
      · rw [List.getElem?_append_right (by omega)] at hp
        have hi0 : i - es.length = 0 := by
          have := (List.getElem?_eq_some_iff.1 hp).1
          simpa using this
        rw [hi0] at hp
        simp at hp
        subst hp
        exact ⟨_, by rw [Array.getElem?_push, if_pos (by omega)], rfl, hy, by show es.length = i; omega, hsl⟩
  · cases he

def makeMapE (h : H) : D × H := (.mp h.nx, { hp := h.hp.set h.nx (.map []), nx := h.nx + 1 })

theorem makeMap_ok {P : Program} {M : Mem} {h : H} {w : World} (hr : RH M h w) (t : TypeId) : ∃ u w' M', (Instr.makeMap t none).run P w = .ok u w' ∧ RH M' (makeMapE h).2 w' ∧ R M' (makeMapE h).1 u ∧ Ext M w M' w' := by
  obtain ⟨g1, g2⟩ := hr.fresh (w' := w.alloc (.map #[] 0)) (.map []) w.heap.size 0 rfl rfl rfl (by simp) (fun n hn => halloc_old w _ n hn) (by simp)
    (fun hle => ⟨#[], halloc_new w _, rfl, fun i p hp => by simp at hp⟩)
  exact ⟨.map (some w.heap.size), _, _, by simp [Instr.makeMap], g1, .mp _ _ ⟨by simp [Mem.set], fun b' c' e => by simp [Mem.set] at e; exact e.1.symm, by simp [Mem.set]⟩, g2⟩

/-! ### Ranges over maps that hold one entry at most -/
def rangeE (P : Program) (h : H) (t : TypeId) (x : D) : Option (D × H) :=
  match P.underlying t with
  | some (.map _ _) => (match x with
    | .lit (.map none) => some (.pt h.nx 0, { hp := h.hp.set h.nx (.mit none 0 [] 0), nx := h.nx + 1 })
    | .mp l => (match h.hp.get l with
      | some (.map es) => some (.pt h.nx 0, { hp := h.hp.set h.nx (.mit (some l) es.length [] es.length), nx := h.nx + 1 })
      | _ => none)
    | _ => none)
  | _ => none

theorem range_ok {P : Program} {M : Mem} {h h' : H} {w : World} (hr : RH M h w) {t : TypeId} {x y : D} (he : rangeE P h t x = some (y, h')) {v : Value} (hv : R M x v) :
    ∃ u w' M', (Instr.range t v).run P w = .ok u w' ∧ RH M' h' w' ∧ R M' y u ∧ Ext M w M' w' := by
  unfold rangeE at he
  split at he
  case h_2 => cases he
  rename_i kt et hm
  split at he
  · cases he
    have hv := hv.litE
    subst hv
    obtain ⟨g1, g2⟩ := hr.fresh (w' := w.alloc (.mapIter none 0 #[] 0)) (.mit none 0 [] 0) w.heap.size 0 rfl rfl rfl (by simp) (fun n hn => halloc_old w _ n hn) (by simp)
      (fun hle => ⟨none, halloc_new w _, trivial⟩)
    exact ⟨.pointer (some ⟨w.heap.size, 0, none⟩), _, _, by simp [Instr.range, run_underlying hm, Result.andThen], g1, .pt _ _ _ ⟨by simp [Mem.set], fun b' c' e => by simp [Mem.set] at e; exact e.1.symm, by simp [Mem.set]⟩, g2⟩
  · rename_i l
    split at he
    case h_2 => cases he
    rename_i es hl
    cases he
    cases hv with
    | mp _ b ha =>
    obtain ⟨c0, _, arr, q2, q3, q4⟩ := hr.look hl ha
    obtain ⟨g1, g2⟩ := hr.fresh (w' := w.alloc (.mapIter (some b) es.length #[] es.length)) (.mit (some l) es.length [] es.length) w.heap.size 0 rfl rfl rfl (by simp) (fun n hn => halloc_old w _ n hn) (by simp)
      (fun hle => ⟨some b, halloc_new w _, ha.mono hle⟩)
    exact ⟨.pointer (some ⟨w.heap.size, 0, none⟩), _, _, by simp [Instr.range, run_underlying hm, MapKept.run_getObj_map q2, Result.andThen], g1, .pt _ _ _ ⟨by simp [Mem.set], fun b' c' e => by simp [Mem.set] at e; exact e.1.symm, by simp [Mem.set]⟩, g2⟩
  · cases he

def nextE (h : H) (x : D) : Option (D × H) :=
  match x with
  | .pt i 0 => (match h.hp.get i with
    | some (.mit none _ _ _) => some (.tup [.lit (.bool false)], h)
    | some (.mit (some l) 0 [] _) => (match h.hp.get l with
      | some (.map []) => some (.tup [.lit (.bool false)], h)
      | _ => none)
    | some (.mit (some l) 1 [] _) => (match h.hp.get l with
      | some (.map [(k, d)]) => some (.tup [.lit (.bool true), dV k, d], { h with hp := h.hp.set i (.mit (some l) 1 [0] 1) })
      | _ => none)
    | some (.mit (some l) 1 [0] 1) => (match h.hp.get l with
      | some (.map [_]) => some (.tup [.lit (.bool false)], h)
      | _ => none)
    | _ => none)
  | _ => none

def entryE (h : H) (x : D) : Option D :=
  match x with
  | .pt i 0 => (match h.hp.get i with
    | some (.mit (some l) 1 [0] 1) => (match h.hp.get l with
      | some (.map [(k, d)]) => some (.tup [dV k, d])
      | _ => none)
    | _ => none)
  | _ => none

theorem run_getObj_it {P : Program} {w : World} {r : Nat} {a : Option Nat} {x : Nat} {y : Array Nat} {z : Nat} (hb : w.heap[r]? = some (.mapIter a x y z)) : (getObj r).run P w = .ok (.mapIter a x y z) w := by simp [getObj, Sem.run, hb]
theorem run_setObj_it {P : Program} {w : World} {r : Nat} {a : Option Nat} {x : Nat} {y : Array Nat} {z : Nat} (o' : Obj) (hb : w.heap[r]? = some (.mapIter a x y z)) : (setObj r o').run P w = .ok () { w with heap := w.heap.setIfInBounds r o' } := by simp [setObj, Sem.run, hb]

theorem tupF {M : Mem} : R M (.tup [.lit (.bool false)]) (.tuple #[.bool false]) := .tup _ _ rfl (fun i d hi => by
  cases i with
  | zero => simp at hi; subst hi; exact .lit _ trivial
  | succ i => simp at hi)

theorem one_entry {M : Mem} {arr : Array MapEntry} {k : Value} {d : D} (h2 : arr.size = 1) (h3 : ∀ (i : Nat) p, ([(k, d)] : List (Value × D))[i]? = some p → ∃ e, arr[i]? = some e ∧ e.key = p.1 ∧ R M p.2 e.val ∧ e.born = i ∧ keyOk p.1) :
    ∃ e : MapEntry, arr = #[e] ∧ e.key = k ∧ R M d e.val ∧ e.born = 0 ∧ keyOk k := by
  obtain ⟨e, q1, q2, q3, q4, q5⟩ := h3 0 (k, d) rfl
  refine ⟨e, ?_, q2, q3, q4, q5⟩
  apply Array.ext
  · simpa using h2
  · intro i hi hj
    have : i = 0 := by simp at hj; omega
    subst this
    have := Array.getElem?_eq_some_iff.1 q1
    simpa using this.2

theorem next_ok {P : Program} {M : Mem} {h h' : H} {w : World} (hr : RH M h w) {x y : D} (he : nextE h x = some (y, h')) {v : Value} (hv : R M x v) (t : TypeId) :
    ∃ u w', (Instr.next v false t).run P w = .ok u w' ∧ RH M h' w' ∧ R M y u ∧ Ext M w M w' := by
  unfold nextE at he
  split at he
  case h_2 => cases he
  rename_i i
  cases hv with
  | pt _ _ b ha =>
  split at he
  · rename_i hi
    cases he
    obtain ⟨c, _, ob, g2, g3⟩ := hr.look hi ha
    cases ob with
    | some _ => exact g3.elim
    | none => exact ⟨_, w, by simp [Instr.next, run_getObj_it g2, Result.andThen], hr, tupF, Ext.refl M w⟩
  · rename_i l hi
    split at he
    case h_2 => cases he
    rename_i hl
    cases he
    obtain ⟨c, _, ob, g2, g3⟩ := hr.look hi ha
    cases ob with
    | none => exact g3.elim
    | some bm =>
    obtain ⟨c', _, arr, k1, k2, _⟩ := hr.look hl g3
    have : arr = #[] := Array.eq_empty_of_size_eq_zero k2
    subst this
    exact ⟨_, w, by simp [Instr.next, run_getObj_it g2, MapKept.run_getObj_map k1, Result.andThen, Question.forced], hr, tupF, Ext.refl M w⟩
  · rename_i l last hi
    split at he
    case h_2 => cases he
    rename_i k d hl
    cases he
    obtain ⟨c, hμ, ob, g2, g3⟩ := hr.look hi ha
    cases ob with
    | none => exact g3.elim
    | some bm =>
    obtain ⟨c', _, arr, k1, k2, k3⟩ := hr.look hl g3
    obtain ⟨e, rfl, e1, e2, e3, e4⟩ := one_entry k2 k3
    have hlt : b < w.heap.size := (Array.getElem?_eq_some_iff.1 g2).1
    obtain ⟨y1, y2⟩ := hr.write (w' := { w with heap := w.heap.setIfInBounds b (.mapIter (some bm) 1 #[0] 1) }) hμ (.mit (some l) 1 [0] 1) rfl rfl rfl (by simp) (fun m hm => by simp [Array.getElem?_setIfInBounds_ne (Ne.symm hm)])
      ⟨some bm, by simp [hlt], g3⟩
    refine ⟨.tuple #[.bool true, e.key, e.val], _, ?_, y1, ?_, y2⟩
    · simp [Instr.next, run_getObj_it g2, MapKept.run_getObj_map k1, Result.andThen, Question.forced, e3, run_setObj_it _ g2]
    · refine .tup _ _ rfl (fun i x hi => ?_)
      match i, hi with
      | 0, hi => simp at hi; subst hi; exact .lit _ trivial
      | 1, hi => simp at hi; subst hi; show R M (dV k) e.key; rw [e1]; exact dV_R e4
      | 2, hi => simp at hi; subst hi; exact e2
      | i + 3, hi => simp at hi
  · rename_i l hi
    split at he
    case h_2 => cases he
    rename_i p hl
    cases he
    obtain ⟨c, _, ob, g2, g3⟩ := hr.look hi ha
    cases ob with
    | none => exact g3.elim
    | some bm =>
    obtain ⟨c', _, arr, k1, k2, k3⟩ := hr.look hl g3
    obtain ⟨k, d⟩ := p
    obtain ⟨e, rfl, e1, e2, e3, e4⟩ := one_entry k2 k3
    exact ⟨_, w, by simp [Instr.next, run_getObj_it g2, MapKept.run_getObj_map k1, Result.andThen, Question.forced, e3], hr, tupF, Ext.refl M w⟩
  · cases he

theorem entry_ok {P : Program} {M : Mem} {h : H} {w : World} (hr : RH M h w) {x y : D} (he : entryE h x = some y) {v : Value} (hv : R M x v) : ∃ u, (Instr.entry v).run P w = .ok u w ∧ R M y u := by
  unfold entryE at he
  split at he
  case h_2 => cases he
  rename_i i
  cases hv with
  | pt _ _ b ha =>
  split at he
  case h_2 => cases he
  rename_i l hi
  split at he
  case h_2 => cases he
  rename_i k d hl
  cases he
  obtain ⟨c, _, ob, g2, g3⟩ := hr.look hi ha
  cases ob with
  | none => exact g3.elim
  | some bm =>
  obtain ⟨c', _, arr, k1, k2, k3⟩ := hr.look hl g3
  obtain ⟨e, rfl, e1, e2, e3, e4⟩ := one_entry k2 k3
  refine ⟨.tuple #[e.key, e.val], ?_, ?_⟩
  · simp [Instr.entry, run_getObj_it g2, MapKept.run_getObj_map k1, Result.andThen, e3]
  · refine .tup _ _ rfl (fun i x hi => ?_)
    match i, hi with
    | 0, hi => simp at hi; subst hi; show R M (dV k) e.key; rw [e1]; exact dV_R e4
    | 1, hi => simp at hi; subst hi; exact e2
    | i + 2, hi => simp at hi

def mapNilE (P : Program) (op : BinOp) (t : TypeId) (x y : D) : Option D :=
  match P.underlying t with
  | some (.map _ _) => (match x, y with
    | .mp _, .lit (.map none) => eqRes op false
    | .lit (.map none), .lit (.map none) => eqRes op true
    | _, _ => none)
  | _ => none

theorem mapNil_ok {P : Program} {M : Mem} {w : World} {op : BinOp} {t : TypeId} {x y p : D} (he : mapNilE P op t x y = some p) {v u : Value} (hv : R M x v) (hu : R M y u) (ox oy : Operand) :
    ∃ q, (do eqGuard op t ox oy v u; binOp op t v u : Sem Value).run P w = .ok q w ∧ R M p q := by
  unfold mapNilE at he
  split at he
  case h_2 => cases he
  rename_i kt et hund
  have eqm : ∀ (a b : Option Nat) (bb : Bool), (match a, b with | none, b => b.isNone | some _, none => false | _, _ => !bb) = bb → (Op.equal t (.map a) (.map b)).run P w = .ok bb w := by
    intro a b bb hb
    have e : (Op.equal t (.map a) (.map b)).run P w = (Op.equalIn (9999 + 1) t (.map a) (.map b)).run P w := rfl
    rw [e]
    unfold Op.equalIn
    rw [Sem.run_bind, run_underlying hund, Result.andThen_ok]
    cases a with
    | none => simp only at hb; subst hb; rfl
    | some a =>
      cases b with
      | none => simp only at hb; subst hb; rfl
      | some b => cases bb <;> simp at hb
  have fin : ∀ (v u : Value) (bb : Bool), (∀ cs ds, ¬ (v = .agg cs ∧ u = .agg ds)) → ¬ (v = .nilIface ∧ u = .nilIface) → (Op.equal t v u).run P w = .ok bb w → eqRes op bb = some p →
      binOp .eql t v u = (do pure (.bool (← Op.equal t v u)) : Sem Value) → binOp .neq t v u = (do pure (.bool (!(← Op.equal t v u))) : Sem Value) →
      ∃ q, (do eqGuard op t ox oy v u; binOp op t v u : Sem Value).run P w = .ok q w ∧ R M p q := by
    intro v u bb n1 n2 h1 h2 b1 b2
    rw [Sem.run_bind, eqGuard_ok op t ox oy _ _ n1 n2, Result.andThen_ok]
    unfold eqRes at h2
    cases op <;> simp only [Option.some.injEq, reduceCtorEq] at h2 <;> subst h2
    · exact ⟨.bool bb, by rw [b1]; simp [h1], .lit _ trivial⟩
    · exact ⟨.bool (!bb), by rw [b2]; simp [h1], .lit _ trivial⟩
  split at he
  · cases hv with
    | mp _ b ha =>
    have hu := hu.litE
    subst hu
    exact fin _ _ false (by simp) (by simp) (eqm (some b) none false rfl) he rfl rfl
  · have hv := hv.litE
    have hu := hu.litE
    subst hv hu
    exact fin _ _ true (by simp) (by simp) (eqm none none true rfl) he rfl rfl
  · cases he
end Go.Ev
