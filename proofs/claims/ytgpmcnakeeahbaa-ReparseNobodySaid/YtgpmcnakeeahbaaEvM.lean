/-
  Maps with texts as keys.
-/
import Derived.Test.YtgpmcnakeeahbaaEvY
import Derived.MapKept
namespace Go.Ev
open Go.Aw (litOk TI tiOf TIs tiOf_spec halloc_old halloc_new eqGuard_ok)

theorem R.litE {M : Mem} {v u : Value} (h : R M (.lit v) u) : u = v := by cases h; rfl

def bytesEqb (a b : ByteArray) : Bool := decide (a.data.toList = b.data.toList)

theorem bytesEqb_iff {a b : ByteArray} : bytesEqb a b = true ↔ a = b := by
  unfold bytesEqb
  simp only [decide_eq_true_eq]
  exact ⟨fun h => ByteArray.ext (Array.ext' h), fun h => by rw [h]⟩

/-- Where a key stands, and what stands there. -/
def findI (k : ByteArray) : List (Value × D) → Nat → Option (Option (Nat × D))
  | [], _ => some none
  | (.string s, d) :: r, i => bif bytesEqb k s then some (some (i, d)) else findI k r (i + 1)
  | _, _ => none

/-- Entries stand for data. -/
def EsR (M : Mem) (es : List (Value × D)) (l : List MapEntry) : Prop := l.length = es.length ∧ ∀ (i : Nat) p, es[i]? = some p → ∃ e, l[i]? = some e ∧ e.key = p.1 ∧ R M p.2 e.val

theorem findI_ok {M : Mem} (k : ByteArray) : ∀ (es : List (Value × D)) (l : List MapEntry) (i : Nat) (r : Option (Nat × D)), findI k es i = some r → EsR M es l →
    ∃ q, Instr.findNow .string (.string k) l i = some q ∧ (match r with
      | none => q = none
      | some (j, d) => ∃ v e, q = some (j, v) ∧ R M d v ∧ i ≤ j ∧ j < i + es.length ∧ l[j - i]? = some e ∧ e.key = .string k)
  | [], l, i, r, h, hl => by
    simp only [findI, Option.some.injEq] at h
    subst h
    have : l = [] := List.eq_nil_of_length_eq_zero hl.1
    subst this
    exact ⟨none, rfl, rfl⟩
  | (x, d) :: es, l, i, r, h, hl => by
    cases x <;> simp only [findI, reduceCtorEq] at h
    rename_i s
    obtain ⟨hlen, hl⟩ := hl
    cases l with
    | nil => simp at hlen
    | cons e l =>
    obtain ⟨e', q1, q2, q3⟩ := hl 0 _ rfl
    simp only [List.getElem?_cons_zero, Option.some.injEq] at q1
    subst q1
    simp only at q2 q3
    have hs : Instr.sameNow .string (.string k) e.key = some (k == s) := by rw [q2]; rfl
    cases hb : bytesEqb k s with
    | true =>
      rw [hb] at h
      simp only [cond_true, Option.some.injEq] at h
      subst h
      have hk := bytesEqb_iff.1 hb
      subst hk
      have : (k == k) = true := (MapKept.bytes_beq k k).2 rfl
      rw [this] at hs
      exact ⟨some (i, e.val), by simp [Instr.findNow, hs], e.val, e, rfl, q3, Nat.le_refl _, by simp, by simp, q2⟩
    | false =>
      rw [hb] at h
      simp only [cond_false] at h
      have : (k == s) = false := by
        cases hc : (k == s) with
        | false => rfl
        | true =>
          have := bytesEqb_iff.2 ((MapKept.bytes_beq k s).1 hc)
          rw [hb] at this; cases this
      rw [this] at hs
      obtain ⟨q, g1, g2⟩ := findI_ok k es l (i + 1) r h ⟨by simpa using hlen, fun j p hp => by have := hl (j + 1) p (by simpa using hp); simpa using this⟩
      refine ⟨q, by simp [Instr.findNow, hs, g1], ?_⟩
      cases r with
      | none => exact g2
      | some p =>
        obtain ⟨j, d'⟩ := p
        obtain ⟨v, e2, a1, a2, a3, a4, a5, a6⟩ := g2
        refine ⟨v, e2, a1, a2, by omega, by simp; omega, ?_, a6⟩
        rw [show j - i = (j - (i + 1)) + 1 by omega]
        simpa using a5

def zeroD (ti : TI) : Option D := bif ti.agg then some (.agg (ti.z.map zD)) else (match ti.z with
  | [y] => some (zD y)
  | _ => none)

theorem zeroD_ok {P : Program} {t : TypeId} {ti : TI} {i : TypeInfo} {d : TypeDesc} {z : Value} (ht : TIs P t ti i d z) {x : D} (hx : zeroD ti = some x) (M : Mem) (w : World) : (zeroValue t).run P w = .ok z w ∧ R M x z := by
  refine ⟨by simp [zeroValue, typeInfo, ht.info, ht.zero], ?_⟩
  obtain ⟨h1, h2⟩ := zeros_get ht M
  unfold zeroD at hx
  have hag := ht.ag
  cases ha : ti.agg with
  | true =>
    rw [ha] at hx hag
    cases hx
    cases z <;> simp only [Aw.isAggV, Bool.false_eq_true] at hag
    exact .agg _ _ h1 (fun i d hi => (h2 i d hi).1) (fun i d hi => (h2 i d hi).2)
  | false =>
    rw [ha] at hx hag
    simp only [cond_false] at hx
    split at hx
    case h_2 => cases hx
    rename_i y hy
    cases hx
    have := h2 0 (zD y) (by rw [hy]; rfl)
    have hz : z.cells.getD 0 undef = z := by cases z <;> first | rfl | simp [Aw.isAggV] at hag
    rw [hz] at this
    exact this.2

def pairOkD (c : Bool) (d : D) (b : Bool) : D := bif c then .tup [d, .lit (.bool b)] else d

def mapTI (P : Program) (t : TypeId) : Option TI :=
  match P.underlying t with
  | some (.map kt et) => (match P.underlying kt with
    | some .string => tiOf P et
    | _ => none)
  | _ => none

def lookupE (P : Program) (h : H) (t : TypeId) (x k : D) (c : Bool) : Option D :=
  match mapTI P t with
  | some ti => (match k with
    | .lit (.string s) => (match x with
      | .lit (.map none) => (zeroD ti).map fun z => pairOkD c z false
      | .mp l => (match h.hp.get l with
        | some (.map es) => (match findI s es 0 with
          | some (some (_, d)) => some (pairOkD c d true)
          | some none => (zeroD ti).map fun z => pairOkD c z false
          | none => none)
        | _ => none)
      | _ => none)
    | _ => none)
  | none => none

theorem pairOk_R {M : Mem} {c : Bool} {d : D} {v : Value} (b : Bool) (h : R M d v) : R M (pairOkD c d b) (if c then .tuple #[v, .bool b] else v) := by
  cases c with
  | false => exact h
  | true =>
    refine .tup _ _ rfl (fun i x hi => ?_)
    match i, hi with
    | 0, hi => simp at hi; subst hi; exact h
    | 1, hi => simp at hi; subst hi; exact .lit _ trivial
    | i + 2, hi => simp at hi

theorem lookup_ok {P : Program} {M : Mem} {h : H} {w : World} (hr : RH M h w) {t : TypeId} {x k d : D} {c : Bool} (he : lookupE P h t x k c = some d) {v u : Value} (hv : R M x v) (hu : R M k u) : ∃ q, (Instr.lookup t v u c).run P w = .ok q w ∧ R M d q := by
  unfold lookupE at he
  split at he
  case h_2 => cases he
  rename_i ti hti
  unfold mapTI at hti
  split at hti
  case h_2 => cases hti
  rename_i kt et hm
  split at hti
  case h_2 => cases hti
  rename_i hkt
  obtain ⟨it, dt, zt, ht⟩ := tiOf_spec hti
  split at he
  case h_2 => cases he
  rename_i s
  have hu := hu.litE
  subst hu
  have hck : ∀ e, (Instr.checkKey e 10000 kt (.string s)).run P w = .ok () w := fun e => MapKept.run_checkKey (k := .string s) hkt (by simp [MapKept.IsKey]) e 9999
  split at he
  · simp only [Option.map_eq_some_iff] at he
    obtain ⟨z, hz, rfl⟩ := he
    have hv := hv.litE
    subst hv
    obtain ⟨g1, g2⟩ := zeroD_ok ht hz M w
    refine ⟨_, ?_, pairOk_R false g2⟩
    have hf : (Instr.findKey kt (.string s) (#[] : Array MapEntry).toList).run P w = .ok none w := MapKept.run_findKey hkt rfl
    simp only [Instr.lookup, Sem.run_bind, run_underlying hm, Result.andThen_ok, Sem.run_pure, hck, hf, g1]
  · rename_i l
    split at he
    case h_2 => cases he
    rename_i es hl
    cases hv with
    | mp _ b ha =>
    obtain ⟨c0, _, arr, clock, g2, g3, g4⟩ := hr.look hl ha
    have hes : EsR M es arr.toList := ⟨by simpa using g3, fun i p hp => by obtain ⟨e, q1, q2⟩ := g4 i p hp; exact ⟨e, by simpa using q1, q2⟩⟩
    split at he
    · rename_i j d0 hfi
      cases he
      obtain ⟨q, k1, vv, e, rfl, k2, _⟩ := findI_ok (M := M) s es arr.toList 0 _ hfi hes
      have hf := MapKept.run_findKey (w := w) hkt k1
      refine ⟨_, ?_, pairOk_R true k2⟩
      simp only [Instr.lookup, Sem.run_bind, run_underlying hm, Result.andThen_ok, Sem.run_pure, MapKept.run_getObj_map g2, hck, hf]
    · rename_i hfi
      simp only [Option.map_eq_some_iff] at he
      obtain ⟨z, hz, rfl⟩ := he
      obtain ⟨q, k1, k2⟩ := findI_ok (M := M) s es arr.toList 0 _ hfi hes
      simp only at k2
      subst k2
      have hf := MapKept.run_findKey (w := w) hkt k1
      obtain ⟨y1, y2⟩ := zeroD_ok ht hz M w
      refine ⟨_, ?_, pairOk_R false y2⟩
      simp only [Instr.lookup, Sem.run_bind, run_underlying hm, Result.andThen_ok, Sem.run_pure, MapKept.run_getObj_map g2, hck, hf, y1]
    · cases he
  · cases he

def okV : D → Bool
  | .un => false
  | _ => true

def mapUpdateE (P : Program) (h : H) (t : TypeId) (x k v : D) : Option H :=
  match mapTI P t with
  | some _ => (match k with
    | .lit (.string s) => (match x with
      | .mp l => (match h.hp.get l with
        | some (.map es) => (match findI s es 0 with
          | some (some (j, _)) => some { h with hp := h.hp.set l (.map (es.set j (.string s, v))) }
          | some none => some { h with hp := h.hp.set l (.map (es ++ [(.string s, v)])) }
          | none => none)
        | _ => none)
      | _ => none)
    | _ => none)
  | none => none

theorem mapUpdate_ok {P : Program} {M : Mem} {h h' : H} {w : World} (hr : RH M h w) {t : TypeId} {x k d : D} (he : mapUpdateE P h t x k d = some h') {v u y : Value} (hv : R M x v) (hu : R M k u) (hy : R M d y) :
    ∃ w', (Instr.mapUpdate t v u y).run P w = .ok () w' ∧ RH M h' w' ∧ Ext M w M w' := by
  unfold mapUpdateE at he
  split at he
  case h_2 => cases he
  rename_i ti hti
  unfold mapTI at hti
  split at hti
  case h_2 => cases hti
  rename_i kt et hm
  split at hti
  case h_2 => cases hti
  rename_i hkt
  split at he
  case h_2 => cases he
  rename_i s
  have hu := hu.litE
  subst hu
  have hck : ∀ e, (Instr.checkKey e 10000 kt (.string s)).run P w = .ok () w := fun e => MapKept.run_checkKey (k := .string s) hkt (by simp [MapKept.IsKey]) e 9999
  split at he
  case h_2 => cases he
  rename_i l
  split at he
  case h_2 => cases he
  rename_i es hl
  cases hv with
  | mp _ b ha =>
  obtain ⟨c0, g1, arr, clock, g2, g3, g4⟩ := hr.look hl ha
  have hes : EsR M es arr.toList := ⟨by simpa using g3, fun i p hp => by obtain ⟨e, q1, q2⟩ := g4 i p hp; exact ⟨e, by simpa using q1, q2⟩⟩
  have hlt : b < w.heap.size := (Array.getElem?_eq_some_iff.1 g2).1
  have fin : ∀ (arr' : Array MapEntry) (clock' : Nat) (es' : List (Value × D)), (Instr.mapUpdate t (.map (some b)) (.string s) y).run P w = .ok () { w with heap := w.heap.setIfInBounds b (.map arr' clock') } →
      arr'.size = es'.length → (∀ (i : Nat) p, es'[i]? = some p → ∃ e, arr'[i]? = some e ∧ e.key = p.1 ∧ R M p.2 e.val) → h' = { h with hp := h.hp.set l (.map es') } →
      ∃ w', (Instr.mapUpdate t (.map (some b)) (.string s) y).run P w = .ok () w' ∧ RH M h' w' ∧ Ext M w M w' := by
    intro arr' clock' es' h1 h2 h3 h4
    subst h4
    obtain ⟨k1, k2⟩ := hr.write (w' := { w with heap := w.heap.setIfInBounds b (.map arr' clock') }) g1 (.map es') rfl rfl rfl (by simp) (fun m hm => by simp [Array.getElem?_setIfInBounds_ne (Ne.symm hm)])
      ⟨arr', clock', by simp [hlt], h2, h3⟩
    exact ⟨_, h1, k1, k2⟩
  split at he
  · rename_i j d0 hfi
    cases he
    obtain ⟨q, k1, vv, e, rfl, k2, _, k4, k5, k6⟩ := findI_ok (M := M) s es arr.toList 0 _ hfi hes
    have hf := MapKept.run_findKey (w := w) hkt k1
    have hj : arr[j]? = some e := by simpa using k5
    have hsb : (Instr.keyThatStays (.string s) (.string s)).run P w = .ok (.string s) w := MapKept.run_keyThatStays (d := .string) (by simp [MapKept.IsKey])
    refine fin (arr.modify j fun e => { e with key := .string s, val := y }) clock (es.set j (.string s, d)) ?_ (by simp [g3]) (fun i p hp => ?_) rfl
    · simp [Instr.mapUpdate, run_underlying hm, MapKept.run_getObj_map g2, hck, hf, hj, k6, hsb, MapKept.run_setObj_map _ g2, Result.andThen]
    · rw [List.getElem?_set] at hp
      by_cases hji : j = i
      · subst hji
        rw [if_pos rfl] at hp
        split at hp
        · cases hp
          exact ⟨{ e with key := .string s, val := y }, by simp [Array.getElem?_modify, hj], rfl, hy⟩
        · cases hp
      · rw [if_neg hji] at hp
        obtain ⟨e', q1, q2⟩ := g4 i p hp
        exact ⟨e', by rw [Array.getElem?_modify, if_neg hji]; exact q1, q2⟩
  · rename_i hfi
    cases he
    obtain ⟨q, k1, k2⟩ := findI_ok (M := M) s es arr.toList 0 _ hfi hes
    simp only at k2
    subst k2
    have hf := MapKept.run_findKey (w := w) hkt k1
    refine fin (arr.push { key := .string s, val := y, born := clock }) (clock + 1) (es ++ [(.string s, d)]) ?_ (by simp [g3]) (fun i p hp => ?_) rfl
    · simp [Instr.mapUpdate, run_underlying hm, MapKept.run_getObj_map g2, hck, hf, MapKept.run_setObj_map _ g2, Result.andThen]
    · by_cases hi : i < es.length
      · rw [List.getElem?_append_left hi] at hp
        obtain ⟨e', q1, q2⟩ := g4 i p hp
        exact ⟨e', by rw [Array.getElem?_push, if_neg (by omega)]; exact q1, q2⟩
      · rw [List.getElem?_append_right (by omega)] at hp
        have hi0 : i - es.length = 0 := by
          have := (List.getElem?_eq_some_iff.1 hp).1
          simpa using this
        rw [hi0] at hp
        simp at hp
        subst hp
        exact ⟨_, by rw [Array.getElem?_push, if_pos (by omega)], rfl, hy⟩
  · cases he

def makeMapE (h : H) : D × H := (.mp h.nx, { hp := h.hp.set h.nx (.map []), nx := h.nx + 1 })

theorem makeMap_ok {P : Program} {M : Mem} {h : H} {w : World} (hr : RH M h w) (t : TypeId) : ∃ u w' M', (Instr.makeMap t none).run P w = .ok u w' ∧ RH M' (makeMapE h).2 w' ∧ R M' (makeMapE h).1 u ∧ Ext M w M' w' := by
  obtain ⟨g1, g2⟩ := hr.fresh (w' := w.alloc (.map #[] 0)) (.map []) w.heap.size 0 rfl rfl rfl (by simp) (fun n hn => halloc_old w _ n hn) (by simp)
    (fun hle => ⟨#[], 0, halloc_new w _, rfl, fun i p hp => by simp at hp⟩)
  exact ⟨.map (some w.heap.size), _, _, by simp [Instr.makeMap], g1, .mp _ _ ⟨by simp [Mem.set], fun b' c' e => by simp [Mem.set] at e; exact e.1.symm, by simp [Mem.set]⟩, g2⟩

def mapNilE (P : Program) (op : BinOp) (t : TypeId) (x y : D) : Option D :=
  match P.underlying t with
  | some (.map _ _) => (match x, y with
    | .mp _, .lit (.map none) => eqRes op false
    | .lit (.map none), .lit (.map none) => eqRes op true
    | _, _ => none)
  | _ => none

theorem mapNil_ok {P : Program} {M : Mem} {w : World} {op : BinOp} {t : TypeId} {x y p : D} (he : mapNilE P op t x y = some p) {v u : Value} (hv : R M x v) (hu : R M y u) (ox oy : Operand) :
    ∃ q, (do eqGuard op t ox oy v u; binOp op t v u : Sem Value).run P w = .ok q w ∧ R M p q := by
  unfold mapNilE at he
  split at he
  case h_2 => cases he
  rename_i kt et hund
  have eqm : ∀ (a b : Option Nat) (bb : Bool), (match a, b with | none, b => b.isNone | some _, none => false | _, _ => !bb) = bb → (Op.equal t (.map a) (.map b)).run P w = .ok bb w := by
    intro a b bb hb
    have e : (Op.equal t (.map a) (.map b)).run P w = (Op.equalIn (9999 + 1) t (.map a) (.map b)).run P w := rfl
    rw [e]
    unfold Op.equalIn
    rw [Sem.run_bind, run_underlying hund, Result.andThen_ok]
    cases a with
    | none => simp only at hb; subst hb; rfl
    | some a =>
      cases b with
      | none => simp only at hb; subst hb; rfl
      | some b => cases bb <;> simp at hb
  have fin : ∀ (v u : Value) (bb : Bool), (∀ cs ds, ¬ (v = .agg cs ∧ u = .agg ds)) → ¬ (v = .nilIface ∧ u = .nilIface) → (Op.equal t v u).run P w = .ok bb w → eqRes op bb = some p →
      binOp .eql t v u = (do pure (.bool (← Op.equal t v u)) : Sem Value) → binOp .neq t v u = (do pure (.bool (!(← Op.equal t v u))) : Sem Value) →
      ∃ q, (do eqGuard op t ox oy v u; binOp op t v u : Sem Value).run P w = .ok q w ∧ R M p q := by
    intro v u bb n1 n2 h1 h2 b1 b2
    rw [Sem.run_bind, eqGuard_ok op t ox oy _ _ n1 n2, Result.andThen_ok]
    unfold eqRes at h2
    cases op <;> simp only [Option.some.injEq, reduceCtorEq] at h2 <;> subst h2
    · exact ⟨.bool bb, by rw [b1]; simp [h1], .lit _ trivial⟩
    · exact ⟨.bool (!bb), by rw [b2]; simp [h1], .lit _ trivial⟩
  split at he
  · cases hv with
    | mp _ b ha =>
    have hu := hu.litE
    subst hu
    exact fin _ _ false (by simp) (by simp) (eqm (some b) none false rfl) he rfl rfl
  · have hv := hv.litE
    have hu := hu.litE
    subst hv hu
    exact fin _ _ true (by simp) (by simp) (eqm none none true rfl) he rfl rfl
  · cases he
end Go.Ev
