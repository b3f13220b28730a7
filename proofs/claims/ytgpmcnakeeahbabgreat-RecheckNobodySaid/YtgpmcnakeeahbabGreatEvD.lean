/-
  Elements, fields, parts, lengths; what is reckoned.
-/
import Derived.Test.YtgpmcnakeeahbabGreatEvC
import Derived.Test.YtgpmcnakeeahbabGreatAwJ
namespace Go.Ev
open Go.Aw (litOk Z TK TI kOf isAggV tiOf TIs tiOf_spec WF addr_add toArray_getD halloc_old halloc_new getD_list und_sl und_str und_arr sB sB_length sliceBounds_run fieldsOf fieldsOf_spec run_part eqGuard_ok)

theorem bif_some {α : Type} {c : Bool} {a : Option α} {y : α} (h : (bif c then a else none) = some y) : c = true ∧ a = some y := by
  cases c with
  | true => exact ⟨rfl, h⟩
  | false => cases h

theorem bif_some2 {α : Type} {c : Bool} {a b y : α} (h : (bif c then some a else some b) = some y) : y = bif c then a else b := by
  cases c <;> exact (Option.some.inj h).symm

/-! ### The address of an element, of a field -/
def indexAddrE (P : Program) (t : TypeId) (x ix : D) : Option D :=
  match ix with
  | .lit (.int _ (.ofNat i)) => (match tiOf P t with
    | some { k := .sl e, .. } => (match tiOf P e, x with
      | some te, .sl l off len _ => bif Nat.blt i len then some (.pt l (off + i * te.size)) else none
      | _, _ => none)
    | some { k := .arr n e, .. } => (match tiOf P e, x with
      | some te, .pt l o => bif Nat.blt i n then some (.pt l (o + i * te.size)) else none
      | _, _ => none)
    | _ => none)
  | _ => none

theorem indexAddr_ok {P : Program} {M : Mem} {w : World} {t : TypeId} {x ix y : D} (he : indexAddrE P t x ix = some y) {v u : Value} (hv : R M x v) (hu : R M ix u) :
    ∃ q, (Instr.indexAt t v u).run P w = .ok q w ∧ R M y q := by
  unfold indexAddrE at he
  split at he
  case h_2 => cases he
  rename_i k i
  cases hu
  have h0 : (0 : Int) ≤ (i : Int) := by omega
  split at he
  · rename_i tsize tbytes e tz htt
    obtain ⟨it, dt, zt, ht⟩ := tiOf_spec htt
    have hte := und_sl ht rfl
    split at he
    case h_2 => cases he
    rename_i te l off len cap hte'
    obtain ⟨ie, de, ze, hie⟩ := tiOf_spec hte'
    rw [cond_eq_ite] at he
    split at he
    case isFalse => cases he
    rename_i hc
    simp only [Nat.blt_eq] at hc
    cases he
    cases hv with
    | sl _ _ _ _ b k ha hk h0' hn hm =>
    refine ⟨.pointer (some ⟨b, off + i * te.size, none⟩), ?_, .pt l _ b ha⟩
    have h1 : (i : Int) < (len : Int) := by omega
    simp only [Instr.indexAt, asIntOf, Sem.run_bind, Sem.run_pure, Result.andThen_ok, run_underlying hte, h0, h1, and_self, if_true, Aw.run_sizeOf hie, addr_add, Int.ofNat_eq_natCast, Int.toNat_natCast]
  · rename_i tsize tbytes n e tz htt
    obtain ⟨it, dt, zt, ht⟩ := tiOf_spec htt
    have hte := und_arr ht rfl
    split at he
    case h_2 => cases he
    rename_i te l o hte'
    obtain ⟨ie, de, ze, hie⟩ := tiOf_spec hte'
    rw [cond_eq_ite] at he
    split at he
    case isFalse => cases he
    rename_i hc
    simp only [Nat.blt_eq] at hc
    cases he
    cases hv with
    | pt _ _ b ha =>
    refine ⟨.pointer (some ⟨b, o + i * te.size, none⟩), ?_, .pt l _ b ha⟩
    have h1 : (i : Int) < (n : Int) := by omega
    simp only [Instr.indexAt, Instr.sureAddr, asIntOf, Sem.run_bind, Sem.run_pure, Result.andThen_ok, run_underlying hte, h0, h1, and_self, if_true, Aw.run_sizeOf hie, addr_add, Int.ofNat_eq_natCast, Int.toNat_natCast]
  · cases he

def fieldAddrE (P : Program) (t : TypeId) (x : D) (f : Nat) : Option D :=
  match fieldsOf P t f, x with
  | some (off, ti), .pt l o => bif Nat.blt 0 ti.size then some (.pt l (o + off)) else none
  | _, _ => none

theorem fieldAddr_ok {P : Program} {M : Mem} {w : World} {t : TypeId} {x y : D} {f : Nat} (he : fieldAddrE P t x f = some y) {v : Value} (hv : R M x v) :
    ∃ q, (Instr.fieldAt t v f).run P w = .ok q w ∧ R M y q := by
  unfold fieldAddrE at he
  split at he
  case h_2 => cases he
  rename_i off ti l o hf
  rw [cond_eq_ite] at he
  split at he
  case isFalse => cases he
  rename_i hc
  simp only [Nat.blt_eq] at hc
  cases he
  obtain ⟨F, fl, i, d, z, h1, h2, rfl, h4⟩ := fieldsOf_spec hf
  cases hv with
  | pt _ _ b ha =>
  refine ⟨_, ?_, .pt l _ b ha⟩
  simp only [Instr.fieldAt, Instr.sureAddr, fieldPlace, Sem.run_bind, run_underlying h1, Result.andThen_ok, h2, Sem.run_pure, Aw.run_sizeOf h4]
  rw [if_neg (by omega)]
  simp [addr_add]

/-! ### Parts of a value -/
def partE (ti : TI) (l : List D) (off : Nat) : Option D :=
  bif Nat.ble (off + ti.size) l.length && Nat.blt 0 ti.size then some (bif ti.agg then .agg ((l.drop off).take ti.size) else (l[off]?).getD .any) else none

theorem part_ok {P : Program} {t : TypeId} {ti : TI} {i : TypeInfo} {d : TypeDesc} {z : Value} (h : TIs P t ti i d z) {M : Mem} (w : World) {l : List D} {cs : Array Value} (hs : cs.size = l.length) (h1 : ∀ (i : Nat) d, l[i]? = some d → (cs.getD i undef).oneCell' = true)
    (h2 : ∀ (i : Nat) d, l[i]? = some d → R M d (cs.getD i undef)) {off : Nat} {y : D} (he : partE ti l off = some y) : ∃ q, (part t cs off).run P w = .ok q w ∧ R M y q := by
  unfold partE at he
  rw [cond_eq_ite] at he
  split at he
  case isFalse => cases he
  rename_i hc
  simp only [Bool.and_eq_true, Nat.ble_eq, Nat.blt_eq] at hc
  cases he
  refine ⟨_, run_part h w cs off (by omega), ?_⟩
  cases ti.agg with
  | false =>
    have : l[off]? = some l[off] := List.getElem?_eq_getElem (by omega)
    simp only [Bool.false_eq_true, if_false, this, Option.getD_some, cond_false]
    exact h2 _ _ this
  | true =>
    simp only [if_true, cond_true]
    have get : ∀ (i : Nat) d, ((l.drop off).take ti.size)[i]? = some d → l[off + i]? = some d ∧ (cs.extract off (off + ti.size)).getD i undef = cs.getD (off + i) undef := by
      intro i d hi
      have hin : i < ti.size := by have := (List.getElem?_eq_some_iff.1 hi).1; simp at this; omega
      rw [List.getElem?_take_of_lt hin, List.getElem?_drop] at hi
      refine ⟨hi, ?_⟩
      simp only [Array.getD_eq_getD_getElem?, Array.getElem?_extract]
      rw [if_pos (by omega)]
    refine .agg _ _ (by simp; omega) (fun i d hi => ?_) (fun i d hi => ?_)
    · rw [(get i d hi).2]; exact h1 _ _ (get i d hi).1
    · rw [(get i d hi).2]; exact h2 _ _ (get i d hi).1

def indexE (P : Program) (t : TypeId) (x ix : D) : Option D :=
  match ix with
  | .lit (.int _ (.ofNat i)) => (match tiOf P t with
    | some { k := .str, .. } => (match x with
      | .lit (.string b) => (match (sB b)[i]? with
        | some u => some (.lit (.int .u8 u.toNat))
        | none => none)
      | _ => none)
    | some { k := .arr n e, .. } => (match tiOf P e, x with
      | some te, .agg l => bif Nat.blt i n then partE te l (i * te.size) else none
      | _, _ => none)
    | _ => none)
  | _ => none

theorem index_ok {P : Program} {M : Mem} {w : World} {t : TypeId} {x ix y : D} (he : indexE P t x ix = some y) {v u : Value} (hv : R M x v) (hu : R M ix u) :
    ∃ q, (Instr.index t v u).run P w = .ok q w ∧ R M y q := by
  unfold indexE at he
  split at he
  case h_2 => cases he
  rename_i k i
  cases hu
  have h0 : (0 : Int) ≤ (i : Int) := by omega
  split at he
  · rename_i tsize tbytes tz htt
    obtain ⟨it, dt, zt, ht⟩ := tiOf_spec htt
    have hts := und_str ht rfl
    split at he
    case h_2 => cases he
    rename_i b
    split at he
    case h_2 => cases he
    rename_i u hu
    cases he
    cases hv
    have hlt : i < b.size := by rw [← sB_length]; exact (List.getElem?_eq_some_iff.1 hu).1
    refine ⟨_, ?_, .lit _ trivial⟩
    simp only [Instr.index, asIntOf, Sem.run_bind, Sem.run_pure, Result.andThen_ok, run_underlying hts, h0, if_true, Int.ofNat_eq_natCast, Int.toNat_natCast]
    have : b[i]? = some u := by
      rw [show b[i]? = some b[i] from getElem?_pos b i hlt]
      have hl : i < (sB b).length := by rw [sB_length]; exact hlt
      rw [List.getElem?_eq_getElem hl] at hu
      rw [← hu]
      simp [sB]
      rfl
    rw [this]
    rfl
  · rename_i tsize tbytes n e tz htt
    obtain ⟨it, dt, zt, ht⟩ := tiOf_spec htt
    have hte := und_arr ht rfl
    split at he
    case h_2 => cases he
    rename_i te l hte'
    obtain ⟨ie, de, ze, hie⟩ := tiOf_spec hte'
    rw [cond_eq_ite] at he
    split at he
    case isFalse => cases he
    rename_i hc
    simp only [Nat.blt_eq] at hc
    cases hv with
    | agg _ cs hs g1 g2 =>
    obtain ⟨q, hq1, hq2⟩ := part_ok hie w hs g1 g2 he
    refine ⟨q, ?_, hq2⟩
    have h1 : (i : Int) < (n : Int) := by omega
    simp only [Instr.index, asIntOf, Sem.run_bind, Sem.run_pure, Result.andThen_ok, run_underlying hte, h0, h1, and_self, if_true, Aw.run_sizeOf hie, Int.ofNat_eq_natCast, Int.toNat_natCast]
    exact hq1
  · cases he

def fieldE (P : Program) (t : TypeId) (x : D) (f : Nat) : Option D :=
  match fieldsOf P t f, x with
  | some (off, ti), .agg l => partE ti l off
  | _, _ => none

theorem field_ok {P : Program} {M : Mem} {w : World} {t : TypeId} {x y : D} {f : Nat} (he : fieldE P t x f = some y) {v : Value} (hv : R M x v) :
    ∃ q, (Instr.field t v f).run P w = .ok q w ∧ R M y q := by
  unfold fieldE at he
  split at he
  case h_2 => cases he
  rename_i off ti l hf
  obtain ⟨F, fl, i, d, z, h1, h2, rfl, h4⟩ := fieldsOf_spec hf
  cases hv with
  | agg _ cs hs e1 e2 =>
  obtain ⟨q, hq1, hq2⟩ := part_ok h4 w hs e1 e2 he
  refine ⟨q, ?_, hq2⟩
  simp only [Instr.field, Sem.run_bind, run_underlying h1, Result.andThen_ok, h2, asAgg, Sem.run_pure]
  exact hq1

/-! ### x[lo:hi:max] -/
/-- A bound: none, or a number not below zero. -/
def boundE : Option D → Option (Option Nat)
  | none => some none
  | some (.lit (.int _ (.ofNat n))) => some (some n)
  | _ => none

theorem boundE_spec {M : Mem} {x : Option D} {v : Option Value} {b : Option Nat} (h : boundE x = some b) (hv : ∀ d, x = some d → ∃ u, v = some u ∧ R M d u) (hn : x = none → v = none) :
    (b.map Int.ofNat = none ∧ v = none) ∨ ∃ n k, b.map Int.ofNat = some n ∧ v = some (.int k n) := by
  unfold boundE at h
  split at h
  · cases h; exact .inl ⟨rfl, hn rfl⟩
  · rename_i k n
    cases h
    obtain ⟨u, hu, hr⟩ := hv _ rfl
    cases hr
    exact .inr ⟨n, k, rfl, hu⟩
  · cases h

def sliceE (P : Program) (t : TypeId) (x : D) (lo hi mx : Option D) : Option D :=
  match tiOf P t, boundE lo, boundE hi, boundE mx with
  | some { k := .str, .. }, some l, some h, some none => (match x with
    | .lit (.string b) => bif Nat.ble (l.getD 0) (h.getD b.size) && Nat.ble (h.getD b.size) b.size then some (.lit (.string (b.extract (l.getD 0) (h.getD b.size)))) else none
    | _ => none)
  | some { k := .sl e, .. }, some l, some h, some m => (match tiOf P e with
    | some te => bif Nat.blt 0 te.size then (match x with
      | .lit (.slice none 0 0) => bif Nat.beq (l.getD 0) 0 && (Nat.beq (h.getD 0) 0 && (match m with | none => true | some _ => false)) then some x else none
      | .em => bif Nat.beq (l.getD 0) 0 && (Nat.beq (h.getD 0) 0 && (match m with | none => true | some _ => false)) then some .em else none
      | .sl b off len cap => bif Nat.ble (l.getD 0) (h.getD len) then (match m, cap with
        | some m, some k => bif Nat.ble (h.getD len) m && (Nat.ble m k && h.isSome) then
            (bif Nat.beq m (l.getD 0) then some (.sl b off 0 (some 0)) else some (.sl b (off + l.getD 0 * te.size) (h.getD len - l.getD 0) (some (m - l.getD 0)))) else none
        | some m, none => bif Nat.ble (h.getD len) m && (Nat.ble m len && h.isSome) then
            (bif Nat.beq m (l.getD 0) then some (.sl b off 0 (some 0)) else some (.sl b (off + l.getD 0 * te.size) (h.getD len - l.getD 0) (some (m - l.getD 0)))) else none
        | none, some k => bif Nat.ble (h.getD len) k then
            (bif Nat.beq k (l.getD 0) then some (.sl b off 0 (some 0)) else some (.sl b (off + l.getD 0 * te.size) (h.getD len - l.getD 0) (some (k - l.getD 0)))) else none
        | none, none => bif Nat.ble (h.getD len) len then
            (bif Nat.beq (l.getD 0) 0 then some (.sl b off (h.getD len) none) else bif Nat.blt (l.getD 0) (h.getD len) then some (.sl b (off + l.getD 0 * te.size) (h.getD len - l.getD 0) none) else some .em) else none) else none
      | _ => none) else none
    | none => none)
  | _, _, _, _ => none

theorem slice_ok {P : Program} {M : Mem} {w : World} {t : TypeId} {x y : D} {lo hi mx : Option D} (he : sliceE P t x lo hi mx = some y) {v : Value} {vl vh vm : Option Value} (hv : R M x v)
    (hl : ∀ d, lo = some d → ∃ u, vl = some u ∧ R M d u) (hl' : lo = none → vl = none) (hh : ∀ d, hi = some d → ∃ u, vh = some u ∧ R M d u) (hh' : hi = none → vh = none)
    (hm : ∀ d, mx = some d → ∃ u, vm = some u ∧ R M d u) (hm' : mx = none → vm = none) : ∃ q, (Instr.sliceAt t v vl vh vm).run P w = .ok q w ∧ R M y q := by
  unfold sliceE at he
  split at he
  · rename_i tsize tbytes tz l h htt el eh em
    obtain ⟨it, dt, zt, ht⟩ := tiOf_spec htt
    have hts := und_str ht rfl
    have sl := boundE_spec el hl hl'
    have sh := boundE_spec eh hh hh'
    have sm := boundE_spec em hm hm'
    split at he
    case h_2 => cases he
    rename_i b
    rw [cond_eq_ite] at he
    split at he
    case isFalse => cases he
    rename_i hc
    simp only [Bool.and_eq_true, Nat.ble_eq] at hc
    cases he
    cases hv with
    | lit _ hlo =>
    have e1 : (l.map Int.ofNat).getD 0 = ((l.getD 0 : Nat) : Int) := by cases l <;> rfl
    have e2 : (h.map Int.ofNat).getD (b.size : Int) = ((h.getD b.size : Nat) : Int) := by cases h <;> rfl
    have hr := sliceBounds_run (P := P) (w := w) false b.size b.size vl vh none (l.map Int.ofNat) (h.map Int.ofNat) none sl sh (.inl ⟨rfl, rfl⟩) (by rw [e1]; omega) (by rw [e1, e2]; omega) (by rw [e2]; simp; omega) (Int.le_refl _) (by simp)
    rw [e1, e2] at hr
    have hvm : vm = none := by
      rcases sm with ⟨_, h⟩ | ⟨_, _, h, _⟩
      · exact h
      · cases h
    subst hvm
    refine ⟨.string (b.extract (l.getD 0) (h.getD b.size)), ?_, .lit _ ?_⟩
    · simp only [Instr.sliceAt, Sem.run_bind, run_underlying hts, Result.andThen_ok, Instr.slice, Option.isSome_none, Bool.false_eq_true, if_false, hr, Sem.run_pure, Int.toNat_natCast]
    · have hs : b.size ≤ maxLen := hlo
      show (b.extract (l.getD 0) (h.getD b.size)).size ≤ maxLen
      rw [ByteArray.size_extract]
      omega
  · rename_i tsize tbytes e tz l h m htt el eh em
    obtain ⟨it, dt, zt, ht⟩ := tiOf_spec htt
    have hte := und_sl ht rfl
    have sl := boundE_spec el hl hl'
    have sh := boundE_spec eh hh hh'
    have sm := boundE_spec em hm hm'
    have e1 : (l.map Int.ofNat).getD 0 = ((l.getD 0 : Nat) : Int) := by cases l <;> rfl
    have e2 : ∀ n : Nat, (h.map Int.ofNat).getD (n : Int) = ((h.getD n : Nat) : Int) := fun n => by cases h <;> rfl
    have e3 : ∀ n : Nat, (m.map Int.ofNat).getD (n : Int) = ((m.getD n : Nat) : Int) := fun n => by cases m <;> rfl
    split at he
    case h_2 => cases he
    rename_i te hte'
    obtain ⟨ie, de, ze, hie⟩ := tiOf_spec hte'
    rw [cond_eq_ite] at he
    split at he
    case isFalse => cases he
    rename_i hsz
    simp only [Nat.blt_eq] at hsz
    -- the run, given the bounds
    have run : ∀ (a : Option Addr) (len cap : Nat), l.getD 0 ≤ h.getD len → h.getD len ≤ m.getD cap → m.getD cap ≤ cap → (m ≠ none → h ≠ none) →
        (Instr.sliceAt t (.slice a len cap) vl vh vm).run P w = .ok (.slice (if m.getD cap = l.getD 0 then a else a.map (·.add (l.getD 0 * te.size))) (h.getD len - l.getD 0) (m.getD cap - l.getD 0)) w := by
      intro a len cap h1 h2 h3 h4
      have hr := sliceBounds_run (P := P) (w := w) true len cap vl vh vm (l.map Int.ofNat) (h.map Int.ofNat) (m.map Int.ofNat) sl sh sm (by rw [e1]; omega) (by rw [e1, e2]; omega) (by rw [e2, e3]; omega) (by rw [e3]; omega)
        (fun hq => by cases h with | none => exact absurd rfl (h4 (by cases m with | none => simp at hq | some _ => simp)) | some _ => simp)
      rw [e1, e2, e3] at hr
      simp only [Int.toNat_natCast] at hr
      simp only [Instr.sliceAt, Sem.run_bind, run_underlying hte, Result.andThen_ok, Instr.slice, hr, Aw.run_sizeOf hie, Sem.run_pure]
    split at he
    · -- nil
      replace he := bif_some he
      obtain ⟨hc, he⟩ := he
      simp only [Bool.and_eq_true] at hc
      obtain ⟨c1, c2, c3⟩ := hc
      have c1 := Nat.eq_of_beq_eq_true c1
      have c2 := Nat.eq_of_beq_eq_true c2
      cases m with
      | some _ => cases c3
      | none =>
      cases he
      cases hv
      refine ⟨_, run none 0 0 (by omega) (by simp; omega) (by simp) (by simp), ?_⟩
      simp only [c1, c2]
      exact .lit _ trivial
    · replace he := bif_some he
      obtain ⟨hc, he⟩ := he
      simp only [Bool.and_eq_true] at hc
      obtain ⟨c1, c2, c3⟩ := hc
      have c1 := Nat.eq_of_beq_eq_true c1
      have c2 := Nat.eq_of_beq_eq_true c2
      cases m with
      | some _ => cases c3
      | none =>
      cases he
      cases hv with
      | em a k hm0 =>
      refine ⟨_, run a 0 k (by omega) (by simp; omega) (by simp) (by simp), ?_⟩
      simp only [c1, c2]
      exact .em _ _ (by simp; omega)
    · rename_i b off len cap
      rw [cond_eq_ite] at he
      split at he
      case isFalse => cases he
      rename_i hlh
      simp only [Nat.ble_eq] at hlh
      cases hv with
      | sl _ _ _ _ bb k ha hk h0 hn hmk =>
      -- where the end is known
      have known : ∀ mm : Nat, m.getD k = mm → h.getD len ≤ mm → mm ≤ k → (m ≠ none → h ≠ none) →
          (y = bif Nat.beq mm (l.getD 0) then D.sl b off 0 (some 0) else D.sl b (off + l.getD 0 * te.size) (h.getD len - l.getD 0) (some (mm - l.getD 0))) →
          ∃ q, (Instr.sliceAt t (.slice (some ⟨bb, off, none⟩) len k) vl vh vm).run P w = .ok q w ∧ R M y q := by
        intro mm hmm h2 h3 h4 hy
        refine ⟨_, run _ len k hlh (by omega) (by omega) h4, ?_⟩
        rw [hmm, hy, cond_eq_ite]
        by_cases hq : mm = l.getD 0
        · have hb : Nat.beq mm (l.getD 0) = true := by rw [hq]; exact Nat.beq_refl _
          rw [if_pos hb, if_pos hq, show h.getD len - l.getD 0 = 0 by omega, show mm - l.getD 0 = 0 by omega]
          exact .sl _ _ _ _ bb 0 ha (fun q hq => by cases hq; rfl) (by simp) (Nat.le_refl _) (Nat.zero_le _)
        · have hb : ¬ Nat.beq mm (l.getD 0) = true := fun hb => hq (Nat.eq_of_beq_eq_true hb)
          rw [if_neg hb, if_neg hq]
          simp only [Option.map_some, addr_add]
          exact .sl _ _ _ _ bb _ ha (fun q hq => by cases hq; rfl) (by simp) (by omega) (by omega)
      split at he
      · rename_i m' k' 
        rw [cond_eq_ite] at he
        split at he
        case isFalse => cases he
        rename_i hc
        simp only [Bool.and_eq_true, Nat.ble_eq] at hc
        have hkk := hk _ rfl
        subst hkk
        refine known m' rfl hc.1 hc.2.1 (fun _ hq => by rw [hq] at hc; simp at hc) ?_
        exact bif_some2 he
      · rename_i m'
        rw [cond_eq_ite] at he
        split at he
        case isFalse => cases he
        rename_i hc
        simp only [Bool.and_eq_true, Nat.ble_eq] at hc
        refine known m' rfl hc.1 (by omega) (fun _ hq => by rw [hq] at hc; simp at hc) ?_
        exact bif_some2 he
      · rename_i k'
        rw [cond_eq_ite] at he
        split at he
        case isFalse => cases he
        rename_i hc
        simp only [Nat.ble_eq] at hc
        have hkk := hk _ rfl
        subst hkk
        refine known k rfl hc (Nat.le_refl _) (by simp) ?_
        exact bif_some2 he
      · rw [cond_eq_ite] at he
        split at he
        case isFalse => cases he
        rename_i hc
        simp only [Nat.ble_eq] at hc
        refine ⟨_, run _ len k hlh (by simp; omega) (by simp) (by simp), ?_⟩
        simp only [Option.getD_none]
        rw [cond_eq_ite] at he
        split at he
        · rename_i hz
          have hz := Nat.eq_of_beq_eq_true hz
          cases he
          rw [hz]
          simp only [Nat.zero_mul, Nat.sub_zero, Option.map_some, addr_add, Nat.add_zero, ite_self]
          exact .sl _ _ _ _ bb k ha (by simp) h0 (by omega) hmk
        · rename_i hz
          have hz : l.getD 0 ≠ 0 := fun q => hz (by rw [q]; rfl)
          rw [cond_eq_ite] at he
          split at he
          · rename_i hlt
            simp only [Nat.blt_eq] at hlt
            cases he
            rw [if_neg (by omega)]
            simp only [Option.map_some, addr_add]
            have hpos : 0 < l.getD 0 * te.size := Nat.mul_pos (by omega) hsz
            exact .sl _ _ _ _ bb _ ha (by simp) (fun _ hq => by omega) (by omega) (by omega)
          · rename_i hlt
            simp only [Nat.blt_eq] at hlt
            cases he
            rw [show h.getD len - l.getD 0 = 0 by omega]
            exact .em _ _ (by omega)
    · cases he
  · cases he

end Go.Ev
