/-
  Operations that leave memory as it is, upon symbolic data: what they tell, and what is owed.
-/
import Derived.Test.YthlebppdhipanaaSyA
import Derived.Test.YthlebppdhipanaaAw
set_option linter.all false
namespace Go.Ev
open Go.Aw (litOk Z TK TI kOf tiOf TIs tiOf_spec WF addr_add und_sl und_str und_arr sB sB_length fieldsOf cutL cutL_length cutL_get sliceBounds_run)

/-- An operation comes to what is told, and leaves memory as it is. -/
def QOp (P : Program) (h : H) (f : Operand → D) (op : Op) (d : D) : Prop :=
  ∀ M w, RH M h w → ∀ ρ : Operand → Value, (∀ x ∈ op.operands, R M (f x) (ρ x)) → ∀ o : Oper, o.op = op → Did P M w o ρ d h

theorem qop_opE {P : Program} {h : H} {f : Operand → D} {op : Op} {d : D} (he : opE P h f op = some (d, h)) : QOp P h f op d := by
  intro M w hr ρ hf o ho
  have : ∃ g : Operand → D, (∀ x ∈ op.operands, f x = g x) ∧ ∀ x, R M (g x) (ρ x) := by
    classical
    exact ⟨fun x => if x ∈ op.operands then f x else .any, fun x hx => (if_pos hx).symm, fun x => by
      show R M (if x ∈ op.operands then f x else .any) (ρ x)
      by_cases hx : x ∈ op.operands
      · rw [if_pos hx]; exact hf x hx
      · rw [if_neg hx]; exact .any _⟩
  obtain ⟨g, h1, h2⟩ := this
  rw [opE_congr h1] at he
  exact opE_ok hr h2 ho he

theorem qop_val {P : Program} {h : H} {f : Operand → D} {op : Op} {d : D} (he : ∀ M w, RH M h w → ∀ ρ : Operand → Value, (∀ x ∈ op.operands, R M (f x) (ρ x)) → ∀ o : Oper, o.op = op → ∃ v, (execOp ρ o).run P w = .ok (.value v) w ∧ R M d v) : QOp P h f op d :=
  fun M w hr ρ hf o ho => let ⟨v, h1, h2⟩ := he M w hr ρ hf o ho; did_val hr v h1 h2

/-! ### Loads -/
def cellsAt (ti : TI) (ds : List D) (o : Nat) : D := bif ti.agg then .agg ((ds.drop o).take ti.size) else (ds[o]?).getD .any

def loadV (h : H) (ti : TI) : D → Option D
  | .pt l o => match h.hp.get l with
    | some (.cells _ _ ds) => some (cellsAt ti ds o)
    | _ => none
  | .ps _ row o => some (cellsAt ti row o)
  | _ => none

def loadO (h : H) (ti : TI) : D → Prop
  | .pt l o => match h.hp.get l with
    | some (.cells _ _ ds) => o + ti.size ≤ ds.length ∧ 0 < ti.size
    | _ => False
  | .ps _ row o => o + ti.size ≤ row.length ∧ 0 < ti.size
  | _ => False

theorem loadV_ok {h : H} {ti : TI} {x d : D} (hv : loadV h ti x = some d) (ho : loadO h ti x) : loadE h ti x = some d := by
  unfold loadV at hv
  unfold loadO at ho
  unfold loadE
  cases x <;> simp only [reduceCtorEq] at hv ho ⊢
  case pt l o =>
    split at hv
    · rename_i hg
      rw [hg] at ho ⊢
      simp only at ho ⊢
      cases hv
      rw [cond_eq_ite, if_pos (by simp [Nat.ble_eq, Nat.blt_eq, ho])]
      rfl
    · cases hv
  case ps q row o =>
    cases hv
    rw [cond_eq_ite, if_pos (by simp [Nat.ble_eq, Nat.blt_eq, ho])]
    rfl

/-! ### Elements -/
def elemTI (P : Program) (t : TypeId) : Option TI :=
  match tiOf P t with
  | some { k := .sl e, .. } => tiOf P e
  | _ => none

def indexAddrV (P : Program) (t : TypeId) (x ix : D) : Option D :=
  match x, ix with
  | .sq _ sz rows, .lit (.int _ i) => (match elemTI P t with
    | some te => if te.size = sz then some (.ps none (rows.getD i.toNat []) 0) else none
    | none => none)
  | .sl l off _ _, .lit (.int _ i) => (match elemTI P t with
    | some te => some (.pt l (off + i.toNat * te.size))
    | none => none)
  | .ow l _, .lit (.int _ i) => (match elemTI P t with
    | some te => some (.pt l (i.toNat * te.size))
    | none => none)
  | x, ix => indexAddrE P t x ix

def indexAddrO (x ix : D) : Prop :=
  match x, ix with
  | .sq _ _ rows, .lit (.int _ i) => 0 ≤ i ∧ i < rows.length
  | .sl _ _ len _, .lit (.int _ i) => 0 ≤ i ∧ i < len
  | .ow _ n, .lit (.int _ i) => 0 ≤ i ∧ i < n
  | _, _ => True

theorem elemTI_spec {P : Program} {t : TypeId} {te : TI} (h : elemTI P t = some te) : ∃ e ie de ze, P.underlying t = some (.slice e) ∧ tiOf P e = some te ∧ TIs P e te ie de ze := by
  unfold elemTI at h
  split at h
  · rename_i tsize tbytes e tz htt
    obtain ⟨it, dt, zt, ht⟩ := tiOf_spec htt
    obtain ⟨ie, de, ze, he⟩ := tiOf_spec h
    exact ⟨_, ie, de, ze, und_sl ht rfl, h, he⟩
  · cases h

theorem int_toNat {i : Int} (h : 0 ≤ i) : i = ((i.toNat : Nat) : Int) := by omega

theorem indexAddrV_ok {P : Program} {t : TypeId} {x ix d : D} (hd : indexAddrV P t x ix = some d) (ho : indexAddrO x ix) {M : Mem} {w : World} {v u : Value} (hv : R M x v) (hu : R M ix u) : ∃ q, (Instr.indexAt t v u).run P w = .ok q w ∧ R M d q := by
  unfold indexAddrV at hd
  split at hd
  · rename_i f sz rows k i
    simp only [indexAddrO] at ho
    split at hd
    case h_2 => cases hd
    rename_i te hte
    split at hd
    case isFalse => cases hd
    rename_i hsz
    cases hd
    obtain ⟨e, ie, de, ze, h1, h2, h3⟩ := elemTI_spec hte
    cases hu
    have hlt : i.toNat < rows.length := by omega
    cases hv with
    | sqn => simp at hlt
    | sq _ _ _ b off k c V hb hn hm hf hz g1 g2 =>
      have hrow : rows[i.toNat]? = some rows[i.toNat] := List.getElem?_eq_getElem hlt
      have hgd : rows.getD i.toNat [] = rows[i.toNat] := by rw [List.getD_eq_getElem?_getD, hrow]; rfl
      refine ⟨.pointer (some ⟨b, off + i.toNat * te.size + 0, none⟩), ?_, ?_⟩
      · simp only [Instr.indexAt, asIntOf, Sem.run_bind, Sem.run_pure, Result.andThen_ok, run_underlying h1, ho.1, ho.2, and_self, if_true, Aw.run_sizeOf h3, addr_add, Nat.add_zero]
      · rw [hgd, hsz]
        exact .ps none _ 0 b (off + i.toNat * sz) c (V i.toNat) hb (fun _ e => by cases e) (fun j x hj => g1 _ _ j x hrow hj) (fun j x hj => g2 _ _ j x hrow hj)
  · rename_i l off len cap k i
    simp only [indexAddrO] at ho
    split at hd
    case h_2 => cases hd
    rename_i te hte
    cases hd
    obtain ⟨e, ie, de, ze, h1, h2, h3⟩ := elemTI_spec hte
    cases hu
    cases hv with
    | sl _ _ _ _ b k ha hk h0 hn hm =>
    refine ⟨.pointer (some ⟨b, off + i.toNat * te.size, none⟩), ?_, .pt _ _ b ha⟩
    simp only [Instr.indexAt, asIntOf, Sem.run_bind, Sem.run_pure, Result.andThen_ok, run_underlying h1, ho.1, ho.2, and_self, if_true, Aw.run_sizeOf h3, addr_add]
  · rename_i l n k i
    simp only [indexAddrO] at ho
    split at hd
    case h_2 => cases hd
    rename_i te hte
    cases hd
    obtain ⟨e, ie, de, ze, h1, h2, h3⟩ := elemTI_spec hte
    cases hu
    cases hv with
    | ow _ _ _ hw =>
    obtain ⟨a, k, rfl, q2, q3, q4, q5, q6⟩ := hw.val
    obtain ⟨b, rfl⟩ := q4 (by omega)
    refine ⟨.pointer (some ⟨b, i.toNat * te.size, none⟩), ?_, .pt _ _ b ⟨hw.lt, fun b' c' e => ?_, fun e => ?_, hw.nres⟩⟩
    · simp only [Instr.indexAt, asIntOf, Sem.run_bind, Sem.run_pure, Result.andThen_ok, run_underlying h1, ho.1, ho.2, and_self, if_true, Aw.run_sizeOf h3, addr_add, Nat.zero_add]
    · have := (q5 b' c' e).1
      injection this with this
      injection this with this
      exact this.symm
    · have := (q6 e).1; omega
  · exact indexAddr_ok hd hv hu

/-- An element of a text. -/
def indexV (P : Program) (t : TypeId) (x ix : D) : Option D :=
  match x, ix with
  | .lit (.string b), .lit (.int _ i) => (match tiOf P t with
    | some { k := .str, .. } => some (.lit (.int .u8 ((sB b).getD i.toNat 0).toNat))
    | _ => none)
  | x, ix => indexE P t x ix

def indexO (x ix : D) : Prop :=
  match x, ix with
  | .lit (.string b), .lit (.int _ i) => 0 ≤ i ∧ i < (sB b).length
  | _, _ => True

theorem indexV_ok {P : Program} {t : TypeId} {x ix d : D} (hd : indexV P t x ix = some d) (ho : indexO x ix) : indexE P t x ix = some d := by
  unfold indexV at hd
  split at hd
  · rename_i b k i
    simp only [indexO] at ho
    split at hd
    case h_2 => cases hd
    rename_i htt
    cases hd
    obtain ⟨n, rfl⟩ : ∃ n : Nat, i = .ofNat n := ⟨i.toNat, int_toNat ho.1⟩
    have hlt : n < (sB b).length := by
      have := ho.2
      simp only [Int.ofNat_eq_natCast] at this
      omega
    have e : (sB b)[n]? = some (sB b)[n] := List.getElem?_eq_getElem hlt
    have e2 : (sB b).getD (Int.ofNat n).toNat 0 = (sB b)[n] := by simp [List.getD_eq_getElem?_getD, e]
    simp only [indexE, htt, e, e2]
  · exact hd

/-! ### x[lo:hi:max] -/
/-- A bound. -/
def bndO (o : Option D) : Option (Option Int) :=
  match o with
  | none => some none
  | some (.lit (.int _ i)) => some (some i)
  | _ => none

def sliceV (P : Program) (t : TypeId) (x : D) (lo hi mx : Option D) : Option D :=
  match x with
  | .lit (.string b) => (match tiOf P t, bndO lo, bndO hi, mx with
    | some { k := .str, .. }, some l, some h, none => some (.lit (.string ⟨(cutL (sB b) (l.getD 0) (h.getD (sB b).length)).toArray⟩))
    | _, _, _, _ => none)
  | .sq _ sz rows => (match elemTI P t, bndO lo, bndO hi, bndO mx with
    | some te, some l, some h, some m => if te.size = sz then some (.sq m.isSome sz (cutL rows (l.getD 0) (h.getD rows.length))) else none
    | _, _, _, _ => none)
  | x => sliceE P t x lo hi mx

def sliceO (x : D) (lo hi mx : Option D) : Prop :=
  match x with
  | .lit (.string b) => (match bndO lo, bndO hi with
    | some l, some h => 0 ≤ l.getD 0 ∧ l.getD 0 ≤ h.getD (sB b).length ∧ h.getD (sB b).length ≤ (sB b).length
    | _, _ => False)
  | .sq _ _ rows => (match bndO lo, bndO hi, bndO mx with
    | some l, some h, some m => 0 ≤ l.getD 0 ∧ l.getD 0 ≤ h.getD rows.length ∧ h.getD rows.length ≤ rows.length ∧ (match m with | none => True | some k => h = some k)
    | _, _, _ => False)
  | _ => True

theorem bndO_spec {M : Mem} {o : Option D} {i : Option Int} (h : bndO o = some i) {v : Option Value} (hv : ∀ d, o = some d → ∃ u, v = some u ∧ R M d u) (hn : o = none → v = none) :
    (i = none ∧ v = none) ∨ ∃ n k, i = some n ∧ v = some (.int k n) := by
  unfold bndO at h
  split at h
  · cases h; exact .inl ⟨rfl, hn rfl⟩
  · cases h
    obtain ⟨u, hu, hr⟩ := hv _ rfl
    cases hr
    exact .inr ⟨_, _, rfl, hu⟩
  · cases h

theorem sliceV_ok {P : Program} {M : Mem} {w : World} {t : TypeId} {x y : D} {lo hi mx : Option D} (he : sliceV P t x lo hi mx = some y) (ho : sliceO x lo hi mx) {v : Value} {vl vh vm : Option Value} (hv : R M x v)
    (hl : ∀ d, lo = some d → ∃ u, vl = some u ∧ R M d u) (hl' : lo = none → vl = none) (hh : ∀ d, hi = some d → ∃ u, vh = some u ∧ R M d u) (hh' : hi = none → vh = none)
    (hm : ∀ d, mx = some d → ∃ u, vm = some u ∧ R M d u) (hm' : mx = none → vm = none) : ∃ q, (Instr.sliceAt t v vl vh vm).run P w = .ok q w ∧ R M y q := by
  unfold sliceV at he
  split at he
  · rename_i b
    split at he
    case h_2 => cases he
    rename_i l h htt el eh
    cases he
    obtain ⟨it, dt, zt, ht⟩ := tiOf_spec htt
    have hts := und_str ht rfl
    have sl := bndO_spec el hl hl'
    have sh := bndO_spec eh hh hh'
    simp only [sliceO, el, eh] at ho
    obtain ⟨h0, h1, h2⟩ := ho
    rw [sB_length] at h1 h2
    cases hv with
    | lit _ hlo =>
    have hr := sliceBounds_run (P := P) (w := w) false b.size b.size vl vh none l h none sl sh (.inl ⟨rfl, rfl⟩) h0 h1 h2 (Int.le_refl _) (by simp)
    have hvm : vm = none := hm' rfl
    subst hvm
    refine ⟨.string (b.extract (l.getD 0).toNat (h.getD (b.size : Int)).toNat), ?_, ?_⟩
    · simp only [Instr.sliceAt, Sem.run_bind, run_underlying hts, Result.andThen_ok, Instr.slice, Option.isSome_none, Bool.false_eq_true, if_false, hr, Sem.run_pure]
    · rw [Lib.extract_eq, sB_length]
      refine .lit _ ?_
      have hs : b.size ≤ maxLen := hlo
      show (ByteArray.mk (List.toArray _)).size ≤ maxLen
      simp only [ByteArray.size, List.size_toArray, cutL, sB, List.length_take, List.length_drop, Array.length_toList]
      have : b.data.size = b.size := rfl
      omega
  · rename_i f sz rows
    split at he
    case h_2 => cases he
    rename_i te l h m hte el eh em
    split at he
    case isFalse => cases he
    rename_i hsz
    subst hsz
    cases he
    obtain ⟨e, ie, de, ze, hu, hie', hie⟩ := elemTI_spec hte
    have sl := bndO_spec el hl hl'
    have sh := bndO_spec eh hh hh'
    have sm := bndO_spec em hm hm'
    simp only [sliceO, el, eh, em] at ho
    obtain ⟨h0, h1, h2, h3⟩ := ho
    have h4 : m ≠ none → h ≠ none := fun hq => by
      cases m with
      | none => exact absurd rfl hq
      | some k => rw [h3]; simp
    have h5 : ∀ mm, m = some mm → h.getD (rows.length : Int) = mm := fun mm hq => by subst hq; rw [h3]; rfl
    cases hv with
    | sqn _ _ a =>
      simp only [List.length_nil, Int.natCast_zero] at h1 h2 h5 ⊢
      have hmg : m.getD (0 : Int) = 0 := by
        cases hm2 : m with
        | none => rfl
        | some mm => have := h5 mm hm2; simp; omega
      have hr := sliceBounds_run (P := P) (w := w) true 0 0 vl vh vm l h m sl sh sm h0 h1 (by simp only [Int.natCast_zero]; omega) (by simp only [Int.natCast_zero]; omega) h4
      simp only [Int.natCast_zero] at hr
      have e1 : l.getD 0 = 0 := by omega
      have e2 : h.getD (0 : Int) = 0 := by omega
      refine ⟨.slice a 0 0, ?_, ?_⟩
      · simp only [Instr.sliceAt, Sem.run_bind, run_underlying hu, Result.andThen_ok, Instr.slice, hr, Aw.run_sizeOf hie, Sem.run_pure, e1, e2, hmg]
        rfl
      · simp only [e1, e2]
        exact .sqn _ _ a
    | sq _ _ _ b off cap c V hb hn hc hf hz g1 g2 =>
      have hcap : m.getD (cap : Int) ≤ (cap : Int) := by
        cases hm2 : m with
        | none => exact Int.le_refl _
        | some mm => have := h5 mm hm2; simp; omega
      have hhm : h.getD (rows.length : Int) ≤ m.getD (cap : Int) := by
        cases hm2 : m with
        | none => simp; omega
        | some mm => have := h5 mm hm2; simp; omega
      have hr := sliceBounds_run (P := P) (w := w) true rows.length cap vl vh vm l h m sl sh sm h0 h1 hhm hcap h4
      have hlen : (cutL rows (l.getD 0) (h.getD (rows.length : Int))).length = (h.getD (rows.length : Int)).toNat - (l.getD 0).toNat := by
        have := cutL_length rows (l.getD 0) (h.getD (rows.length : Int)) h0 h1 h2
        omega
      generalize hcut : cutL rows (l.getD 0) (h.getD (rows.length : Int)) = cut at hlen
      by_cases hmc : (m.getD (cap : Int)).toNat = (l.getD 0).toNat
      · have hce : cut = [] := List.eq_nil_of_length_eq_zero (by omega)
        subst hce
        refine ⟨.slice (some ⟨b, off, none⟩) 0 0, ?_, .sqn _ _ _⟩
        simp only [Instr.sliceAt, Sem.run_bind, run_underlying hu, Result.andThen_ok, Instr.slice, hr, Aw.run_sizeOf hie, Sem.run_pure]
        rw [if_pos hmc, ← hlen, hmc]
        simp
      · refine ⟨.slice (some ⟨b, off + (l.getD 0).toNat * te.size, none⟩) cut.length ((m.getD (cap : Int)).toNat - (l.getD 0).toNat), ?_, ?_⟩
        · simp only [Instr.sliceAt, Sem.run_bind, run_underlying hu, Result.andThen_ok, Instr.slice, hr, Aw.run_sizeOf hie, Sem.run_pure]
          rw [if_neg hmc, ← hlen]
          simp [addr_add]
        · refine .sq _ te.size cut b (off + (l.getD 0).toNat * te.size) _ c (fun i j => V ((l.getD 0).toNat + i) j) hb (by omega) (by omega) ?_ ?_ ?_ ?_
          · intro hfl
            cases hm2 : m with
            | none => rw [hm2] at hfl; cases hfl
            | some mm => have := h5 mm hm2; simp only [Option.getD_some]; omega
          · intro r hr'
            rw [← hcut, cutL] at hr'
            exact hz r (List.mem_of_mem_drop (List.mem_of_mem_take hr'))
          · intro i r j x hi hj
            rw [← hcut] at hi
            have := g1 _ r j x (cutL_get hi) hj
            rw [Nat.add_mul] at this
            rw [Nat.add_assoc off]
            exact this
          · intro i r j x hi hj
            rw [← hcut] at hi
            exact g2 _ r j x (cutL_get hi) hj
  · exact slice_ok he hv hl hl' hh hh' hm hm'

/-! ### len, cap -/
def lenV (P : Program) (t : TypeId) (x : D) : Option D :=
  match x with
  | .lit (.string b) => (match tiOf P t with
    | some { k := .str, .. } => some (.lit (.int .i64 (sB b).length))
    | _ => none)
  | .sq _ _ rows => (match tiOf P t with
    | some { k := .sl _, .. } => some (.lit (.int .i64 rows.length))
    | _ => none)
  | .ow _ n => (match tiOf P t with
    | some { k := .sl _, .. } => some (.lit (.int .i64 n))
    | _ => none)
  | x => lenE P t x

theorem lenV_ok {P : Program} {M : Mem} {w : World} {t ty : TypeId} {x y : D} (he : lenV P t x = some y) {v : Value} (hv : R M x v) : ∃ q, (Builtin.len_ #[t] ty #[v]).run P w = .ok q w ∧ R M y q := by
  unfold lenV at he
  split at he
  · rename_i b
    split at he
    case h_2 => cases he
    rename_i htt
    obtain ⟨it, dt, zt, ht⟩ := tiOf_spec htt
    have hts := und_str ht rfl
    cases he
    cases hv
    refine ⟨goInt b.size, by simp [Builtin.len_, run_underlying hts], ?_⟩
    rw [sB_length]; exact .lit _ trivial
  · split at he
    case h_2 => cases he
    rename_i htt
    obtain ⟨it, dt, zt, ht⟩ := tiOf_spec htt
    have hts := und_sl ht rfl
    cases he
    cases hv with
    | sqn => exact ⟨goInt _, by simp [Builtin.len_, run_underlying hts], .lit _ trivial⟩
    | sq => exact ⟨goInt _, by simp [Builtin.len_, run_underlying hts], .lit _ trivial⟩
  · split at he
    case h_2 => cases he
    rename_i htt
    obtain ⟨it, dt, zt, ht⟩ := tiOf_spec htt
    have hts := und_sl ht rfl
    cases he
    cases hv with
    | ow _ _ _ hw =>
    obtain ⟨a, k, rfl, _⟩ := hw.val
    exact ⟨goInt _, by simp [Builtin.len_, run_underlying hts], .lit _ trivial⟩
  · exact len_ok he hv

/-! ### Two operands -/
/-- Whether two structs are the same. -/
def andB : Option Bool → Option Bool → Option Bool
  | some a, some b => some (a && b)
  | _, _ => none

def eqFsV (P : Program) (eq : TypeId → D → D → Option Bool) (xs ys : List D) : List Field → Option Bool
  | [] => some true
  | f :: r => if (f.name == "_") = true then eqFsV P eq xs ys r else (match tiOf P f.type with
    | some ti => (match partE ti xs f.offset, partE ti ys f.offset with
      | some a, some b => andB (eq f.type a b) (eqFsV P eq xs ys r)
      | _, _ => none)
    | none => none)

def eqInV (P : Program) : Nat → TypeId → D → D → Option Bool
  | 0, _, _, _ => none
  | n + 1, t, x, y => match x, y with
    | .agg xs, .agg ys => (match P.underlying t with
      | some (.struct fs) => bif P.stoodInHeld t then none else eqFsV P (eqInV P n) xs ys fs.toList
      | _ => none)
    | x, y => eqIn P (n + 1) t x y

theorem eqFsV_ok {P : Program} {eq eq' : TypeId → D → D → Option Bool} (heq : ∀ t x y b, eq t x y = some b → eq' t x y = some b) {xs ys : List D} : ∀ (fs : List Field) (b : Bool), eqFsV P eq xs ys fs = some b → eqFs P eq' xs ys fs = some b
  | [], b, h => h
  | f :: r, b, h => by
    simp only [eqFsV] at h
    simp only [eqFs]
    by_cases hf : (f.name == "_") = true
    · rw [if_pos hf] at h
      rw [hf]
      exact eqFsV_ok heq r b h
    · rw [if_neg hf] at h
      have hf : (f.name == "_") = false := by simpa using hf
      rw [hf]
      simp only [cond_false]
      split at h
      case h_2 => cases h
      rename_i ti hti
      rw [hti]
      split at h
      case h_2 => cases h
      rename_i p q hp hq
      simp only [hp, hq]
      unfold andB at h
      split at h
      case h_2 => cases h
      rename_i a c ha hc
      cases h
      rw [heq _ _ _ _ ha]
      cases a with
      | true => simp only [Bool.true_and]; exact eqFsV_ok heq r c hc
      | false => rfl

theorem eqInV_ok {P : Program} : ∀ (n : Nat) (t : TypeId) (x y : D) (b : Bool), eqInV P n t x y = some b → eqIn P n t x y = some b
  | 0, _, _, _, _, h => h
  | n + 1, t, x, y, b, h => by
    unfold eqInV at h
    split at h
    · rename_i xs ys
      split at h
      case h_2 => cases h
      rename_i fs hfs
      rw [cond_eq_ite] at h
      split at h
      · cases h
      rename_i hst
      have hst : P.stoodInHeld t = false := by simpa using hst
      simp only [eqIn, hfs, hst, cond_false]
      exact eqFsV_ok (eqInV_ok n) _ _ h
    · exact h

/-- Two operands of what kinds. -/
def binV (P : Program) (h : H) (op : BinOp) (t : TypeId) (x y : D) : Option D :=
  match x, y with
  | .lit (.int k a), .lit (.int k' b) => (match op with
    | .quo => if k = k' then some (.lit (.int k (k.wrap (a.tdiv b)))) else none
    | .rem => if k = k' then some (.lit (.int k (a.tmod b))) else none
    | .shl => some (.lit (.int k (k.wrap (a * 2 ^ (min b.toNat k.bits)))))
    | .shr => some (.lit (.int k (a.fdiv (2 ^ (min b.toNat k.bits)))))
    | op => if k = k' then (binI op k a b).map .lit else none)
  | .lit (.string a), .lit (.string b) => (match op with
    | .add => some (.lit (.string ⟨(sB a ++ sB b).toArray⟩))
    | op => (binS op a b).map .lit)
  | .agg xs, .agg ys => bif P.eqGuardType P.depth t then none else (match eqInV P 40 t (.agg xs) (.agg ys) with
    | some b => eqRes op b
    | none => none)
  | x, y => (match binE P op t x y with
    | some d => some d
    | none => ptrEqE P h op t x y)

def binO (op : BinOp) (x y : D) : Prop :=
  match x, y with
  | .lit (.int _ _), .lit (.int _ b) => (match op with
    | .quo => b ≠ 0
    | .rem => b ≠ 0
    | .shl => 0 ≤ b
    | .shr => 0 ≤ b
    | _ => True)
  | .lit (.string a), .lit (.string b) => (match op with
    | .add => (sB a).length + (sB b).length ≤ 9223372036854775807
    | _ => True)
  | _, _ => True

theorem append_sB (a b : ByteArray) : a ++ b = ⟨(sB a ++ sB b).toArray⟩ := by
  apply ByteArray.ext
  rw [ByteArray.data_append]
  apply Array.ext'
  simp [sB]

theorem binV_lit {P : Program} {op : BinOp} {t : TypeId} {k k' : IntKind} {a b : Int} {d : D} {h : H} (hv : binV P h op t (.lit (.int k a)) (.lit (.int k' b)) = some d) (ho : binO op (.lit (.int k a)) (.lit (.int k' b))) : binE P op t (.lit (.int k a)) (.lit (.int k' b)) = some d := by
  simp only [binV] at hv
  simp only [binE, binN]
  cases op <;> simp only [binO] at ho <;> simp only at hv ⊢
  case quo =>
    split at hv
    · rename_i hk
      cases hv
      have hb : (b == 0) = false := by simpa using ho
      simp [hk, binI, hb]
    · cases hv
  case rem =>
    split at hv
    · rename_i hk
      cases hv
      have hb : (b == 0) = false := by simpa using ho
      simp [hk, binI, hb]
    · cases hv
  case shl => cases hv; simp [ho]
  case shr => cases hv; simp [ho]
  all_goals
    split at hv
    · rename_i hk
      simp only [hk, decide_true, cond_true]
      subst hk
      exact hv
    · cases hv

theorem binV_ok {P : Program} {h : H} {op : BinOp} {t t' : TypeId} {ox oy : Operand} {f : Operand → D} {d : D} (hd : binV P h op t (f ox) (f oy) = some d) (ho : binO op (f ox) (f oy)) : QOp P h f (.binOp op t ox oy t') d := by
  have viaE : binE P op t (f ox) (f oy) = some d → QOp P h f (.binOp op t ox oy t') d := fun he => qop_opE (by simp only [opE, he])
  cases hx : f ox with
  | lit vx =>
    cases hy : f oy with
    | lit vy =>
      rw [hx, hy] at hd ho viaE
      cases vx <;> cases vy <;> first
        | exact viaE (binV_lit hd ho)
        | (simp only [binV] at hd
           split at hd
           · cases hd; exact viaE (by assumption)
           · rename_i hn
             exact qop_opE (by simp only [opE, hx, hy, hn, hd]))
        | skip
      rename_i a b
      cases op <;> simp only [binV, binO] at hd ho
      case add =>
        cases hd
        refine viaE ?_
        simp only [sB_length] at ho
        have hb : Nat.ble (a.size + b.size) 9223372036854775807 = true := by rw [Nat.ble_eq]; exact ho
        simp only [binE, binS, hb, cond_true, Option.map_some, append_sB]
      all_goals exact viaE (by simpa only [binE] using hd)
    | _ =>
      rw [hx, hy] at hd viaE
      simp only [binV] at hd
      split at hd
      · cases hd; exact viaE (by assumption)
      · rename_i hn
        exact qop_opE (by simp only [opE, hx, hy, hn, hd])
  | agg xs =>
    cases hy : f oy with
    | agg ys =>
      rw [hx, hy] at hd viaE
      simp only [binV] at hd
      rw [cond_eq_ite] at hd
      split at hd
      · cases hd
      rename_i hg
      have hg : P.eqGuardType P.depth t = false := by simpa using hg
      split at hd
      case h_2 => cases hd
      rename_i b hb
      have hs : structEqE P op t (.agg xs) (.agg ys) = some d := by
        simp only [structEqE, hg, cond_false, eqInV_ok _ _ _ _ _ hb]
        exact hd
      cases hbe : binE P op t (.agg xs) (.agg ys) with
      | some q =>
        exfalso
        simp only [binE, eqE] at hbe
        split at hbe
        · rename_i hq; split at hq <;> first | contradiction | cases hq
        · cases hbe
      | none =>
        refine qop_opE ?_
        simp only [opE, hx, hy, hbe, ptrEqE, hs, Option.map_some]
    | _ =>
      rw [hx, hy] at hd viaE
      simp only [binV] at hd
      split at hd
      · cases hd; exact viaE (by assumption)
      · rename_i hn
        exact qop_opE (by simp only [opE, hx, hy, hn, hd])
  | _ =>
    rw [hx] at hd viaE
    simp only [binV] at hd
    split at hd
    · cases hd; exact viaE (by assumption)
    · rename_i hn
      exact qop_opE (by simp only [opE, hx, hn, hd])
end Go.Ev
