/-
  Elements, parts, lengths, fields; numbers, texts, bools.
-/
import Derived.Test.YtgpmcnakeeahbabGreatAwG
namespace Go.Aw

/-! ### Texts as lists of bytes -/
def sB (s : ByteArray) : List UInt8 := s.data.toList
abbrev D.str (l : List UInt8) : D := .i (.lit (.string ⟨l.toArray⟩))
abbrev D.int (n : Int) : D := .i (.lit (.int .i64 n))
abbrev D.bool (b : Bool) : D := .i (.lit (.bool b))
@[simp] theorem sB_mk (l : List UInt8) : sB ⟨l.toArray⟩ = l := by simp [sB]
theorem mk_sB (s : ByteArray) : (⟨(sB s).toArray⟩ : ByteArray) = s := by simp [sB]
theorem sB_length (s : ByteArray) : (sB s).length = s.size := by
  show s.data.toList.length = s.data.size
  rw [Array.length_toList]

/-! ### The address of an element -/
def indexAddrP (P : Program) (s : St) (t : TypeId) (x ix : D) (K : D → Prop) : Prop :=
  match tiOf P t, ix with
  | some ti, .i (.lit (.int _ i)) => (match ti.k, x with
    | .sl e, .i (.sl _ sz rows) => (match tiOf P e with
      | some te => te.size = sz ∧ 0 ≤ i ∧ i < (rows.length : Int) ∧ K (.el (rows.getD i.toNat []) 0)
      | none => False)
    | .sl e, .os l => (match tiOf P e, hlook s.hp l with
      | some te, some (.arr _ sz rows) => te.size = sz ∧ 0 ≤ i ∧ i < (rows.length : Int) ∧ K (.ea l sz i.toNat 0)
      | _, _ => False)
    | .arr n e, .pt l o => (match tiOf P e with
      | some te => 0 ≤ i ∧ i < (n : Int) ∧ K (.pt l (o + i.toNat * te.size))
      | none => False)
    | _, _ => False)
  | _, _ => False

theorem own_slice {w : World} {e : TypeId} {sz n : Nat} {v : Value} {xs : List Value} (h : w.ownsRow 0 e sz v n xs) : (v = .slice none 0 0 ∧ n = 0) ∨ ∃ g c, v = .slice (some ⟨g, 0, none⟩) n c ∧ n ≤ c ∧ c ≤ maxLen := by
  rcases h.2 with ⟨rfl, h0⟩ | ⟨g, cap, cur, rfl, _, _, h1, h2, _⟩
  · exact .inl ⟨rfl, h0⟩
  · exact .inr ⟨g, cap, rfl, h1, h2⟩

theorem indexAddr_ok {P : Program} {M : Mem} {s : St} {w : World} {a : Act} (hr : Rep M s w a) {t : TypeId} {x ix : D} {K : D → Prop} (h : indexAddrP P s t x ix K) {v u : Value} (hv : R M w x v) (hu : R M w ix u) :
    ∃ y q, (Instr.indexAt t v u).run P w = .ok q w ∧ R M w y q ∧ K y := by
  unfold indexAddrP at h
  split at h
  case h_2 => exact h.elim
  rename_i ti k i hti
  obtain ⟨it, dt, zt, ht⟩ := tiOf_spec hti
  cases hu with
  | i _ _ hu =>
  cases hu
  split at h
  · rename_i e f sz rows hk
    have hte := und_sl ht hk
    split at h
    case h_2 => exact h.elim
    rename_i te hte'
    obtain ⟨ie, de, ze, hie⟩ := tiOf_spec hte'
    obtain ⟨rfl, h0, h1, hK⟩ := h
    cases hv with
    | i _ _ hv =>
    cases hv with
    | nil => simp at h1; omega
    | sl f sz rows b off cap V hb hn hc hf hz g1 g2 =>
      refine ⟨_, .pointer (some ⟨b, off + i.toNat * te.size, none⟩), ?_, ?_, hK⟩
      · simp only [Instr.indexAt, asIntOf, Sem.run_bind, Sem.run_pure, Result.andThen_ok, run_underlying hte, h0, h1, and_self, if_true, run_sizeOf hie, addr_add]
      · have hil : i.toNat < rows.length := by omega
        have hri : rows[i.toNat]? = some rows[i.toNat] := List.getElem?_eq_getElem hil
        have hD : rows.getD i.toNat [] = rows[i.toNat] := by simp [List.getD_eq_getElem?_getD, hri]
        rw [hD]
        exact R.el _ 0 b (off + i.toNat * te.size) (V i.toNat) hb (fun j x hj => g1 _ _ j x hri hj) (fun j x hj => g2 _ _ j x hri hj)
  · rename_i e l hk
    have hte := und_sl ht hk
    split at h
    case h_2 => exact h.elim
    rename_i te ty sz rows hte' hds
    obtain ⟨ie, de, ze, hie⟩ := tiOf_spec hte'
    obtain ⟨rfl, h0, h1, hK⟩ := h
    cases hv with
    | os _ _ hl hone =>
    have hbb := hr.hp l _ hds
    rw [hl] at hbb
    obtain ⟨xs, ho, hz, hx⟩ := hbb
    rcases own_slice ho with ⟨rfl, hn⟩ | ⟨g, c, rfl, hn, hc⟩
    · omega
    · refine ⟨_, .pointer (some ⟨g, i.toNat * te.size + 0, none⟩), ?_, .ea l te.size i.toNat 0 _ g hl rfl, hK⟩
      simp only [Instr.indexAt, asIntOf, Sem.run_bind, Sem.run_pure, Result.andThen_ok, run_underlying hte, h0, h1, and_self, if_true, run_sizeOf hie, addr_add]
      simp
  · rename_i n e l o hk
    have hte := und_arr ht hk
    split at h
    case h_2 => exact h.elim
    rename_i te hte'
    obtain ⟨ie, de, ze, hie⟩ := tiOf_spec hte'
    obtain ⟨h0, h1, hK⟩ := h
    cases hv with
    | pt _ b _ hl =>
    refine ⟨_, .pointer (some ⟨b, o + i.toNat * te.size, none⟩), ?_, .pt l b _ hl, hK⟩
    simp only [Instr.indexAt, Instr.sureAddr, asIntOf, Sem.run_bind, Sem.run_pure, Result.andThen_ok, run_underlying hte, h0, h1, and_self, if_true, run_sizeOf hie, addr_add]
  · exact h.elim

/-! ### A byte, an element of an array -/
def indexP (P : Program) (t : TypeId) (x ix : D) (K : D → Prop) : Prop :=
  match tiOf P t, ix with
  | some ti, .i (.lit (.int _ i)) => (match ti.k, x with
    | .str, .i (.lit (.string b)) => 0 ≤ i ∧ i < ((sB b).length : Int) ∧ K (.i (.lit (.int .u8 (((sB b).getD i.toNat 0).toNat : Int))))
    | .arr n e, .agg l => (match tiOf P e with
      | some te => 0 ≤ i ∧ i < (n : Int) ∧ i.toNat * te.size + te.size ≤ l.length ∧ 0 < te.size ∧ K (if te.agg then .agg ((l.drop (i.toNat * te.size)).take te.size) else (l[i.toNat * te.size]?).getD .any)
      | none => False)
    | _, _ => False)
  | _, _ => False

theorem run_part {P : Program} {t : TypeId} {ti : TI} {i : TypeInfo} {d : TypeDesc} {z : Value} (h : TIs P t ti i d z) (w : World) (cs : Array Value) (off : Nat) (ho : off < cs.size) :
    (part t cs off).run P w = .ok (if ti.agg then .agg (cs.extract off (off + ti.size)) else cs.getD off undef) w := by
  unfold part
  simp only [Sem.run_bind, run_isAgg h, Result.andThen_ok]
  cases ha : ti.agg with
  | true => simp [run_sizeOf h]
  | false => simp [ho, Array.getD_eq_getD_getElem?]

theorem part_R {M : Mem} {w : World} {l : List D} {cs : Array Value} (hs : cs.size = l.length) (h1 : ∀ i d, l[i]? = some d → (cs.getD i undef).oneCell' = true) (h : ∀ i d, l[i]? = some d → R M w d (cs.getD i undef)) (ag : Bool) (off n : Nat) (hn : off + n ≤ l.length) (h0 : 0 < n) :
    R M w (if ag then .agg ((l.drop off).take n) else (l[off]?).getD .any) (if ag then .agg (cs.extract off (off + n)) else cs.getD off undef) := by
  cases ag with
  | false =>
    have : l[off]? = some l[off] := List.getElem?_eq_getElem (by omega)
    simp only [Bool.false_eq_true, if_false, this, Option.getD_some]
    exact h _ _ this
  | true =>
    simp only [if_true]
    have get : ∀ i d, ((l.drop off).take n)[i]? = some d → l[off + i]? = some d ∧ (cs.extract off (off + n)).getD i undef = cs.getD (off + i) undef := by
      intro i d hi
      have hin : i < n := by have := (List.getElem?_eq_some_iff.1 hi).1; simp at this; omega
      rw [List.getElem?_take_of_lt hin, List.getElem?_drop] at hi
      refine ⟨hi, ?_⟩
      simp only [Array.getD_eq_getD_getElem?, Array.getElem?_extract]
      rw [if_pos (by omega)]
    refine .agg _ _ (by simp; omega) (fun i d hi => ?_) (fun i d hi => ?_)
    · rw [(get i d hi).2]; exact h1 _ _ (get i d hi).1
    · rw [(get i d hi).2]; exact h _ _ (get i d hi).1

theorem index_ok {P : Program} {M : Mem} {w : World} {t : TypeId} {x ix : D} {K : D → Prop} (h : indexP P t x ix K) {v u : Value} (hv : R M w x v) (hu : R M w ix u) :
    ∃ y q, (Instr.index t v u).run P w = .ok q w ∧ R M w y q ∧ K y := by
  unfold indexP at h
  split at h
  case h_2 => exact h.elim
  rename_i ti k i hti
  obtain ⟨it, dt, zt, ht⟩ := tiOf_spec hti
  cases hu with
  | i _ _ hu =>
  cases hu
  split at h
  · rename_i b hk
    have hts := und_str ht hk
    obtain ⟨h0, h1, hK⟩ := h
    cases hv with
    | i _ _ hv =>
    cases hv
    rw [sB_length] at h1
    have hlt : i.toNat < b.size := by omega
    refine ⟨_, .int .u8 (b[i.toNat].toNat : Int), ?_, ?_, hK⟩
    · simp only [Instr.index, asIntOf, Sem.run_bind, Sem.run_pure, Result.andThen_ok, run_underlying hts, h0, if_true]
      rw [show b[i.toNat]? = some b[i.toNat] from getElem?_pos b _ hlt]
      rfl
    · have : (sB b).getD i.toNat 0 = b[i.toNat] := by
        have hl : i.toNat < (sB b).length := by rw [sB_length]; exact hlt
        rw [List.getD_eq_getElem?_getD, List.getElem?_eq_getElem hl]
        simp [sB]
        rfl
      rw [this]
      exact .i _ _ (.lit _ trivial)
  · rename_i n e l hk
    have hte := und_arr ht hk
    split at h
    case h_2 => exact h.elim
    rename_i te hte'
    obtain ⟨ie, de, ze, hie⟩ := tiOf_spec hte'
    obtain ⟨h0, h1, h2, h3, hK⟩ := h
    cases hv with
    | agg _ cs hs g1 g2 =>
    refine ⟨_, _, ?_, part_R hs g1 g2 te.agg (i.toNat * te.size) te.size h2 h3, hK⟩
    simp only [Instr.index, asIntOf, Sem.run_bind, Sem.run_pure, Result.andThen_ok, run_underlying hte, h0, h1, and_self, if_true, run_sizeOf hie]
    exact run_part hie w cs _ (by omega)
  · exact h.elim

/-! ### Fields -/
def fieldsOf (P : Program) (t : TypeId) (f : Nat) : Option (Nat × TI) :=
  match tiOf P t with
  | some { k := .st fs, .. } => (match fs[f]? with
    | some (off, ft) => (tiOf P ft).map fun ti => (off, ti)
    | none => none)
  | _ => none

theorem fieldsOf_spec {P : Program} {t : TypeId} {f off : Nat} {ti : TI} (h : fieldsOf P t f = some (off, ti)) :
    ∃ F fl i d z, P.underlying t = some (.struct F) ∧ F[f]? = some fl ∧ fl.offset = off ∧ TIs P fl.type ti i d z := by
  unfold fieldsOf at h
  split at h
  · rename_i tsize tbytes fs tz htt
    obtain ⟨it, dt, zt, ht⟩ := tiOf_spec htt
    have hk := ht.k
    simp only at hk
    cases dt <;> simp [kOf] at hk
    rename_i F
    subst hk
    split at h
    · rename_i off' ft hf
      simp only [List.getElem?_map, Option.map_eq_some_iff, Prod.mk.injEq] at hf
      obtain ⟨fl, hfl, rfl, rfl⟩ := hf
      simp only [Option.map_eq_some_iff, Prod.mk.injEq] at h
      obtain ⟨ti', hti', rfl, rfl⟩ := h
      obtain ⟨i, d, z, hi⟩ := tiOf_spec hti'
      exact ⟨F, fl, i, d, z, ht.und, by simpa using hfl, rfl, hi⟩
    · cases h
  · cases h

def addO (n : Nat) : D → D
  | .pt l o => .pt l (o + n)
  | .el r o => .el r (o + n)
  | .ea l sz i o => .ea l sz i (o + n)
  | _ => .any

def fieldAddrP (P : Program) (t : TypeId) (x : D) (f : Nat) (K : D → Prop) : Prop :=
  match fieldsOf P t f with
  | some (off, ti) => 0 < ti.size ∧ (match x with | .pt _ _ => True | .el _ _ => True | .ea _ _ _ _ => True | _ => False) ∧ K (addO off x)
  | none => False

theorem fieldAddr_ok {P : Program} {M : Mem} {w : World} {t : TypeId} {x : D} {f : Nat} {K : D → Prop} (h : fieldAddrP P t x f K) {v : Value} (hv : R M w x v) :
    ∃ y q, (Instr.fieldAt t v f).run P w = .ok q w ∧ R M w y q ∧ K y := by
  unfold fieldAddrP at h
  split at h
  case h_2 => exact h.elim
  rename_i off ti hf
  obtain ⟨F, fl, i, d, z, h1, h2, rfl, h4⟩ := fieldsOf_spec hf
  obtain ⟨h0, hx, hK⟩ := h
  have hrun : ∀ b o, (Instr.fieldAt t (.pointer (some ⟨b, o, none⟩)) f).run P w = .ok (.pointer (some ⟨b, o + fl.offset, none⟩)) w := by
    intro b o
    simp only [Instr.fieldAt, Instr.sureAddr, fieldPlace, Sem.run_bind, run_underlying h1, Result.andThen_ok, h2, Sem.run_pure, run_sizeOf h4]
    rw [if_neg (by omega)]
    simp [addr_add]
  cases hv with
  | pt l b o hl => exact ⟨_, _, hrun b o, .pt l b _ hl, hK⟩
  | el row o b off V hb g1 g2 => exact ⟨_, _, hrun b _, by rw [Nat.add_assoc]; exact .el row _ b off V hb g1 g2, hK⟩
  | ea l sz i o v b hl hb => exact ⟨_, _, hrun b _, by rw [Nat.add_assoc]; exact .ea l sz i _ v b hl hb, hK⟩
  | _ => exact hx.elim

def fieldP (P : Program) (t : TypeId) (x : D) (f : Nat) (K : D → Prop) : Prop :=
  match fieldsOf P t f with
  | some (off, ti) => (match x with
    | .agg l => off + ti.size ≤ l.length ∧ 0 < ti.size ∧ K (if ti.agg then .agg ((l.drop off).take ti.size) else (l[off]?).getD .any)
    | .i (.agg l) => off + ti.size ≤ l.length ∧ 0 < ti.size ∧ K (if ti.agg then .agg (((l.map D.i).drop off).take ti.size) else ((l.map D.i)[off]?).getD .any)
    | _ => False)
  | none => False

theorem field_ok {P : Program} {M : Mem} {w : World} {t : TypeId} {x : D} {f : Nat} {K : D → Prop} (h : fieldP P t x f K) {v : Value} (hv : R M w x v) :
    ∃ y q, (Instr.field t v f).run P w = .ok q w ∧ R M w y q ∧ K y := by
  unfold fieldP at h
  split at h
  case h_2 => exact h.elim
  rename_i off ti hf
  obtain ⟨F, fl, i, d, z, h1, h2, rfl, h4⟩ := fieldsOf_spec hf
  split at h
  · rename_i l
    obtain ⟨g1, g2, hK⟩ := h
    cases hv with
    | agg _ cs hs e1 e2 =>
    refine ⟨_, _, ?_, part_R hs e1 e2 ti.agg fl.offset ti.size g1 g2, hK⟩
    simp only [Instr.field, Sem.run_bind, run_underlying h1, Result.andThen_ok, h2, asAgg, Sem.run_pure]
    exact run_part h4 w cs _ (by omega)
  · rename_i l
    obtain ⟨g1, g2, hK⟩ := h
    cases hv with
    | i _ _ hv =>
    cases hv with
    | agg _ cs hs e1 e2 =>
    have e1' : ∀ i d, (l.map D.i)[i]? = some d → (cs.getD i undef).oneCell' = true := fun i d hi => by
      simp only [List.getElem?_map, Option.map_eq_some_iff] at hi
      obtain ⟨x, hx, rfl⟩ := hi
      exact e1 i x hx
    have e2' : ∀ i d, (l.map D.i)[i]? = some d → R M w d (cs.getD i undef) := fun i d hi => by
      simp only [List.getElem?_map, Option.map_eq_some_iff] at hi
      obtain ⟨x, hx, rfl⟩ := hi
      exact .i _ _ (e2 i x hx)
    refine ⟨_, _, ?_, part_R (by simpa using hs) e1' e2' ti.agg fl.offset ti.size (by simpa using g1) g2, hK⟩
    simp only [Instr.field, Sem.run_bind, run_underlying h1, Result.andThen_ok, h2, asAgg, Sem.run_pure]
    exact run_part h4 w cs _ (by omega)
  · exact h.elim

end Go.Aw
