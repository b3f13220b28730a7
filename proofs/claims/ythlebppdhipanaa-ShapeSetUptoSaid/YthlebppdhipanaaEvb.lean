/-
  Pointers: whether they are the same; as unsafe pointers; a text out of bytes.
-/
import Derived.Test.YthlebppdhipanaaEva
import Derived.Lib.Builder
import Derived.Lib.UnsafeStr
import Derived.LaidEqlPtr
import Derived.MapKept
import Derived.Test.YthlebppdhipanaaAw
set_option linter.all false
namespace Go.Ev
open Go.Aw (litOk TI tiOf TIs tiOf_spec addr_add eqGuard_ok)

theorem eql_equal {P : Program} {t : TypeId} {v u : Value} {b : Bool} {w : World} (h1 : binOp .eql t v u = (do pure (.bool (← Op.equal t v u)) : Sem Value)) (h : (binOp .eql t v u).run P w = .ok (.bool b) w) : (Op.equal t v u).run P w = .ok b w := by
  rw [h1] at h
  simp only [Sem.run_bind] at h
  cases hr : (Op.equal t v u).run P w with
  | ok x w' =>
    rw [hr] at h
    simp only [Result.andThen_ok, Sem.run_pure] at h
    injection h with e1 e2
    injection e1 with e1
    rw [e1, e2]
  | halt x w' => rw [hr] at h; simp [Result.andThen] at h

def ptrEqE (P : Program) (h : H) (op : BinOp) (t : TypeId) (x y : D) : Option D :=
  match x, y with
  | .pt l o, .pt l' o' => (match P.underlying t with
    | some (.pointer e) => (match P.info? e with
      | some j => (match h.hp.get l, h.hp.get l' with
        | some (.cells _ _ _), some (.cells _ _ _) => bif Nat.beq l l' && Nat.beq o o' then eqRes op true else bif Nat.beq j.size 0 then none else eqRes op false
        | _, _ => none)
      | none => none)
    | _ => none)
  | _, _ => none

theorem ptrEq_ok {P : Program} {M : Mem} {h : H} {w : World} (hr : RH M h w) {op : BinOp} {t : TypeId} {x y p : D} (he : ptrEqE P h op t x y = some p) {v u : Value} (hv : R M x v) (hu : R M y u) (ox oy : Operand) :
    ∃ q, (do eqGuard op t ox oy v u; binOp op t v u : Sem Value).run P w = .ok q w ∧ R M p q := by
  unfold ptrEqE at he
  split at he
  case h_2 => cases he
  rename_i l o l' o'
  split at he
  case h_2 => cases he
  rename_i e hund
  split at he
  case h_2 => cases he
  rename_i j hj
  split at he
  case h_2 => cases he
  rename_i ty op1 ds ty' op2 ds' hl hl'
  cases hv with
  | pt _ _ b ha =>
  cases hu with
  | pt _ _ b' ha' =>
  obtain ⟨c, g1, cur, g2, _⟩ := hr.look hl ha
  obtain ⟨c', g1', cur', g2', _⟩ := hr.look hl' ha'
  rw [Sem.run_bind, eqGuard_ok op t ox oy _ _ (by simp) (by simp), Result.andThen_ok]
  have fin : ∀ bb : Bool, (binOp .eql t (.pointer (some ⟨b, o, none⟩)) (.pointer (some ⟨b', o', none⟩))).run P w = .ok (.bool bb) w → eqRes op bb = some p →
      ∃ q, (binOp op t (.pointer (some ⟨b, o, none⟩)) (.pointer (some ⟨b', o', none⟩))).run P w = .ok q w ∧ R M p q := by
    intro bb h1 h2
    have h3 := eql_equal rfl h1
    unfold eqRes at h2
    cases op <;> simp only [Option.some.injEq, reduceCtorEq] at h2 <;> subst h2
    · exact ⟨_, h1, .lit _ trivial⟩
    · refine ⟨.bool (!bb), ?_, .lit _ trivial⟩
      have : binOp .neq t (.pointer (some ⟨b, o, none⟩)) (.pointer (some ⟨b', o', none⟩)) = (do pure (.bool (!(← Op.equal t (.pointer (some ⟨b, o, none⟩)) (.pointer (some ⟨b', o', none⟩))))) : Sem Value) := rfl
      rw [this]
      simp [h3]
  rw [cond_eq_ite] at he
  split at he
  · rename_i hc
    simp only [Bool.and_eq_true] at hc
    have q1 := Nat.eq_of_beq_eq_true hc.1
    have q2 := Nat.eq_of_beq_eq_true hc.2
    subst q1 q2
    have : b = b' := ha'.2.1 _ _ g1
    subst this
    exact fin true (run_eql_ptr_same w _ hund hj) he
  · rename_i hc
    rw [cond_eq_ite] at he
    split at he
    · cases he
    · rename_i hz
      have hz : j.size ≠ 0 := fun q => hz (by rw [q]; rfl)
      have hne : (⟨b, o, none⟩ : Addr) ≠ ⟨b', o', none⟩ := by
        intro q
        injection q with q1 q2
        subst q1 q2
        have := hr.inv.inj l l' _ _ _ g1 g1'
        subst this
        exact hc (by simp)
      exact fin false (run_eql_ptr_other w hund hj hz hne g2 g2') he

/-! ### Conversions to and from unsafe.Pointer -/
def convPE (P : Program) (h : H) (src dst : TypeId) (x : D) : Option D :=
  match x with
  | .pt l o => (match h.hp.get l with
    | some (.cells ty none ds) => bif Nat.blt o ds.length then (match P.underlying src, P.underlying dst with
      | some (.pointer t), some .unsafePointer => (match P.info? t with
        | some j => bif Nat.beq j.size 0 then none else some x
        | none => none)
      | some .unsafePointer, some (.pointer u) => (match P.info? u with
        | some _ => bif liesAt P P.depth ty (ds.length / P.cellsOf ty) o u 1 then some x else none
        | none => none)
      | _, _ => none) else none
    | _ => none)
  | _ => none

theorem convP_ok {P : Program} {M : Mem} {h : H} {w : World} (hr : RH M h w) {src dst : TypeId} {x y : D} (he : convPE P h src dst x = some y) {v : Value} (hv : R M x v) : ∃ q, (convert src dst v).run P w = .ok q w ∧ R M y q := by
  unfold convPE at he
  split at he
  case h_2 => cases he
  rename_i l o
  split at he
  case h_2 => cases he
  rename_i ty ds hl
  obtain ⟨hlt, he⟩ := bif_some he
  simp only [Nat.blt_eq] at hlt
  cases hv with
  | pt _ _ b ha =>
  obtain ⟨c, g1, cur, g2, g3, g4⟩ := hr.look hl ha
  have g3 : cur.size = ds.length := g3
  have hsh : w.shape? b = some (ty, ds.length) := by simp [World.shape?, g2, g3]
  split at he
  · rename_i t hs hd
    split at he
    case h_2 => cases he
    rename_i j hj
    rw [cond_eq_ite] at he
    split at he
    · cases he
    · rename_i hz
      have hz : j.size ≠ 0 := fun q => hz (by rw [q]; rfl)
      cases he
      exact ⟨_, Lib.run_to_unsafe (w := w) ⟨b, o, none⟩ hs hd hj hz hsh hlt, .pt l o b ha⟩
  · rename_i u hs hd
    split at he
    case h_2 => cases he
    rename_i j hj
    obtain ⟨hlies, he⟩ := bif_some he
    cases he
    exact ⟨_, Lib.run_from_unsafe (w := w) ⟨b, o, none⟩ hs hd hj hsh hlies, .pt l o b ha⟩
  · cases he

/-! ### unsafe.SliceData, unsafe.String -/
theorem RH.drop {M : Mem} {h : H} {w w' : World} (hr : RH M h w) {l n c : Nat} (hl : M.μ l = .blk n c) (ho : w'.os = w.os) (htp : w'.tape = w.tape) (hou : w'.output = w.output)
    (hsz : w'.heap.size = w.heap.size) (hk : ∀ b, b ≠ n → w'.heap[b]? = w.heap[b]?) : RH M { h with hp := h.hp.del l } w' ∧ Ext M w M w' := by
  refine ⟨⟨⟨hr.inv.inj, fun l b c e => by rw [hsz]; exact hr.inv.lt l b c e, hr.inv.nx, fun b q e => by
    obtain ⟨ty, fr, e2⟩ := hr.inv.fz b q e
    exact ⟨ty, fr, (hk b (fun x => hr.inv.sep b q e l c (x ▸ hl))).trans e2⟩, hr.inv.sep⟩, fun m b e => ?_, hr.nx⟩, ⟨ho, htp, hou, Nat.le_of_eq hsz.symm, fun b hb hn => hk b (fun e => hn l c (e ▸ hl)), fun l b c e => .inl ⟨l, c, e⟩, Nat.le_refl _, fun _ _ => .inl rfl, fun _ _ h => h, fun _ _ h => .inl h, fun _ _ h => h⟩⟩
  simp only [T.get_del] at e
  by_cases hm : l = m
  · rw [if_pos hm] at e; cases e
  · rw [if_neg hm] at e
    exact (hr.hp m b e).mono (.refl M) (fun n' c' h1 => hk n' (fun q => hm (hr.inv.inj l m n c c' hl (q ▸ h1))))


def sliceDataE : D → Option D
  | .lit (.slice none 0 0) => some (.lit (.pointer none))
  | .sl l off _ (some (k + 1)) => some (.pt l off)
  | .sl l off (n + 1) none => some (.pt l off)
  | _ => none

theorem sliceData_ok {P : Program} {M : Mem} {w : World} {ts : Array TypeId} {ty : TypeId} {x y : D} (he : sliceDataE x = some y) {v : Value} (hv : R M x v) : ∃ q, (Builtin.unsafeSliceData_ ts ty #[v]).run P w = .ok q w ∧ R M y q := by
  unfold sliceDataE at he
  split at he
  · cases he
    cases hv
    exact ⟨_, Lib.run_unsafeSliceData_nil w ts ty 0 0, .lit _ trivial⟩
  · cases he
    cases hv with
    | sl _ _ _ _ b k ha hk h0 hn hm =>
    have := hk _ rfl
    exact ⟨_, Lib.run_unsafeSliceData_row w ts ty _ _ _ (by omega), .pt _ _ b ha⟩
  · cases he
    cases hv with
    | sl _ _ _ _ b k ha hk h0 hn hm =>
    exact ⟨_, Lib.run_unsafeSliceData_row w ts ty _ _ _ (by omega), .pt _ _ b ha⟩
  · cases he

def bytesE : List D → Option (List UInt8)
  | [] => some []
  | .lit (.int .u8 (.ofNat n)) :: r => bif Nat.blt n 256 then (bytesE r).map (n.toUInt8 :: ·) else none
  | _ :: _ => none

theorem bytesE_ok {M : Mem} : ∀ (ds : List D) (l : List UInt8), bytesE ds = some l → l.length = ds.length ∧ ∀ (j : Nat) x, l[j]? = some x → ∃ d, ds[j]? = some d ∧ ∀ v, R M d v → v = .int .u8 x.toNat
  | [], l, h => by
    simp only [bytesE, Option.some.injEq] at h
    subst h
    simp
  | d :: r, l, h => by
    unfold bytesE at h
    split at h
    · rename_i heq; cases heq
    · rename_i n r' heq
      cases heq
      obtain ⟨hn, hb⟩ := bif_some h
      simp only [Nat.blt_eq] at hn
      simp only [Option.map_eq_some_iff] at hb
      obtain ⟨l', hb, rfl⟩ := hb
      obtain ⟨h1, h2⟩ := bytesE_ok (M := M) r l' hb
      refine ⟨by simp [h1], fun j x hj => ?_⟩
      cases j with
      | zero =>
        simp only [List.getElem?_cons_zero, Option.some.injEq] at hj
        subst hj
        refine ⟨_, rfl, fun v hv => ?_⟩
        cases hv
        have : n.toUInt8.toNat = n := by simp [Nat.toUInt8, UInt8.toNat_ofNat']; omega
        rw [this]
        rfl
      | succ j => exact h2 j x (by simpa using hj)
    · cases h

def strE (P : Program) (h : H) (pt : TypeId) (x y : D) : Option (D × H) :=
  match y with
  | .lit (.int .i64 (.ofNat 0)) => (match x with
    | .lit (.pointer none) => some (.lit (.string ⟨#[]⟩), h)
    | .pt _ _ => some (.lit (.string ⟨#[]⟩), h)
    | _ => none)
  | .lit (.int .i64 (.ofNat (n + 1))) => (match x with
    | .pt l 0 => (match h.hp.get l with
      | some (.cells ty _ ds) => (match P.underlying pt with
        | some (.pointer e) => bif Nat.beq ty e && (Nat.beq (P.cellsOf e) 1 && (Nat.ble (n + 1) ds.length && Nat.ble (n + 1) 9223372036854775807)) then
            (match bytesE (ds.take (n + 1)) with
            | some l' => some (.lit (.string ⟨l'.toArray⟩), { h with hp := h.hp.del l })
            | none => none) else none
        | _ => none)
      | _ => none)
    | _ => none)
  | _ => none
theorem freeze_other (w : World) (b n m : Nat) (hm : m ≠ b) : (w.freeze ⟨b, 0, none⟩ n).heap[m]? = w.heap[m]? := by
  unfold World.freeze
  split
  · rfl
  · simp only [Array.getElem?_modify]
    rw [if_neg (fun q => hm q.symm)]

theorem str_ok {P : Program} {M : Mem} {h h' : H} {w : World} (hr : RH M h w) {pt it ty : TypeId} {x y p : D} (he : strE P h pt x y = some (p, h')) {v u : Value} (hv : R M x v) (hu : R M y u) :
    ∃ q w', (Builtin.unsafeString_ #[pt, it] ty #[v, u]).run P w = .ok q w' ∧ RH M h' w' ∧ R M p q ∧ Ext M w M w' := by
  unfold strE at he
  split at he
  · cases hu
    split at he
    · cases he
      cases hv
      exact ⟨_, w, Lib.run_unsafeString_none w pt it ty none, hr, .lit _ (Nat.zero_le _), Ext.refl M w⟩
    · cases he
      cases hv
      exact ⟨_, w, Lib.run_unsafeString_none w pt it ty _, hr, .lit _ (Nat.zero_le _), Ext.refl M w⟩
    · cases he
  · rename_i n
    cases hu
    split at he
    case h_2 => cases he
    rename_i l
    split at he
    case h_2 => cases he
    rename_i ty' op ds hl
    split at he
    case h_2 => cases he
    rename_i e hund
    replace he := bif_some he
    obtain ⟨hc, he⟩ := he
    simp only [Bool.and_eq_true, Nat.ble_eq] at hc
    obtain ⟨c1, c2, c3, c4⟩ := hc
    have c1 : ty' = e := Nat.eq_of_beq_eq_true c1
    have c2 : P.cellsOf e = 1 := Nat.eq_of_beq_eq_true c2
    subst c1
    split at he
    case h_2 => cases he
    rename_i l' hbs
    cases he
    cases hv with
    | pt _ _ b ha =>
    obtain ⟨c, g1, cur, g2, g3, g4⟩ := hr.look hl ha
    have hle : ds.length ≤ cur.size := by
      cases op with
      | none => simp only at g3; omega
      | some q => exact g3.1
    obtain ⟨k1, k2⟩ := bytesE_ok (M := M) _ _ hbs
    have hlen : l'.length = n + 1 := by rw [k1, List.length_take]; omega
    have hsh : w.shape? b = some (ty', cur.size) := by simp [World.shape?, g2]
    have hrun := Lib.run_unsafeString_row w pt it ty ty' hund c2 b cur.size hsh l' (by intro q; rw [q] at hlen; simp at hlen) (by omega) (by omega) (fun j x hj => by
      obtain ⟨d, hd, hval⟩ := k2 j x hj
      have hlt : j < n + 1 := by rw [← hlen]; exact (List.getElem?_eq_some_iff.1 hj).1
      rw [List.getElem?_take_of_lt hlt] at hd
      have := hval _ (g4 j d hd).2
      rw [addr_add, Nat.zero_add]
      have hjc : j < cur.size := by omega
      simp only [World.cell?, g2]
      rw [← this]
      simp [Array.getD, hjc])
    rw [hlen] at hrun
    obtain ⟨y1, y2⟩ := hr.drop (w' := w.freeze ⟨b, 0, none⟩ (n + 1)) g1 rfl rfl rfl (by simp [World.freeze]) (fun m hm => freeze_other w b (n + 1) m hm)
    refine ⟨_, _, hrun, y1, .lit _ ?_, y2⟩
    show (ByteArray.mk l'.toArray).size ≤ maxLen
    simp only [ByteArray.size, List.size_toArray, hlen, maxLen]
    exact c4
  · cases he
end Go.Ev

/-
  Whether two structs are the same.
-/
namespace Go.Ev
open Go.Aw (litOk TI TK tiOf TIs tiOf_spec sB)

def eqFs (P : Program) (eq : TypeId → D → D → Option Bool) (xs ys : List D) : List Field → Option Bool
  | [] => some true
  | f :: r => bif f.name == "_" then eqFs P eq xs ys r else (match tiOf P f.type with
    | some ti => (match partE ti xs f.offset, partE ti ys f.offset with
      | some a, some b => (match eq f.type a b with
        | some true => eqFs P eq xs ys r
        | some false => some false
        | none => none)
      | _, _ => none)
    | none => none)

def eqIn (P : Program) : Nat → TypeId → D → D → Option Bool
  | 0, _, _, _ => none
  | n + 1, t, x, y => match x, y with
    | .lit (.int k a), .lit (.int k' b) => (match P.underlying t with
      | some (.int _) => bif decide (k = k') then some (a == b) else none
      | _ => none)
    | .lit (.bool a), .lit (.bool b) => (match P.underlying t with
      | some .bool => some (a == b)
      | _ => none)
    | .lit (.string a), .lit (.string b) => (match P.underlying t with
      | some .string => some (sB a == sB b)
      | _ => none)
    | .agg xs, .agg ys => (match P.underlying t with
      | some (.struct fs) => bif P.stoodInHeld t then none else eqFs P (eqIn P n) xs ys fs.toList
      | _ => none)
    | _, _ => none

theorem eqFs_ok {P : Program} {M : Mem} {w : World} {eq : TypeId → D → D → Option Bool} {d : Nat} (heq : ∀ t x y b v u, eq t x y = some b → R M x v → R M y u → (Op.equalIn d t v u).run P w = .ok b w)
    {xs ys : List D} {cs ds : Array Value} (hx : R M (.agg xs) (.agg cs)) (hy : R M (.agg ys) (.agg ds)) : ∀ (fs : List Field) (b : Bool), eqFs P eq xs ys fs = some b → (Op.eqFields d cs ds fs).run P w = .ok b w
  | [], b, h => by
    simp only [eqFs, Option.some.injEq] at h
    subst h
    rfl
  | f :: r, b, h => by
    cases hx with
    | agg _ _ hs h1 h2 =>
    cases hy with
    | agg _ _ hs' h1' h2' =>
    simp only [eqFs] at h
    simp only [Op.eqFields]
    rw [cond_eq_ite] at h
    split at h
    · rename_i hn
      have hn : f.name = "_" := by simpa using hn
      rw [if_neg (by simpa using hn)]
      exact eqFs_ok heq (.agg _ _ hs h1 h2) (.agg _ _ hs' h1' h2') r b h
    · rename_i hn
      have hn : f.name ≠ "_" := by simpa using hn
      rw [if_pos hn]
      split at h
      case h_2 => cases h
      rename_i ti hti
      obtain ⟨i, dd, z, ht⟩ := tiOf_spec hti
      split at h
      case h_2 => cases h
      rename_i a c ha hc
      obtain ⟨va, e1, e2⟩ := part_ok ht w hs h1 h2 ha
      obtain ⟨vc, e3, e4⟩ := part_ok ht w hs' h1' h2' hc
      simp only [Sem.run_bind, e1, Result.andThen_ok, e3]
      split at h
      · rename_i hq
        rw [heq _ _ _ _ _ _ hq e2 e4]
        simp only [Result.andThen_ok, Bool.not_true, Bool.false_eq_true, if_false]
        exact eqFs_ok heq (.agg _ _ hs h1 h2) (.agg _ _ hs' h1' h2') r b h
      · rename_i hq
        cases h
        rw [heq _ _ _ _ _ _ hq e2 e4]
        simp only [Result.andThen_ok, Bool.not_false, if_true, Sem.run_pure]
      · cases h

theorem eqIn_ok {P : Program} {M : Mem} {w : World} : ∀ (n m : Nat), n ≤ m → ∀ (t : TypeId) (x y : D) (b : Bool) (v u : Value), eqIn P n t x y = some b → R M x v → R M y u → (Op.equalIn m t v u).run P w = .ok b w
  | 0, m, _, t, x, y, b, v, u, h, _, _ => by simp [eqIn] at h
  | n + 1, 0, hm, _, _, _, _, _, _, _, _, _ => by omega
  | n + 1, m + 1, hm, t, x, y, b, v, u, h, hv, hu => by
    simp only [eqIn] at h
    split at h
    · split at h
      · rename_i hund
        obtain ⟨hk, h9⟩ := bif_some h
        simp only [decide_eq_true_eq] at hk
        subst hk
        cases h9
        cases hv
        cases hu
        exact run_equalIn_int w m t _ _ _ _ hund
      · cases h
    · split at h
      · rename_i hund
        cases h
        cases hv
        cases hu
        exact run_equalIn_bool' w m t _ _ hund
      · cases h
    · split at h
      · rename_i a c hund
        cases h
        cases hv
        cases hu
        rw [run_equalIn_string w m t _ _ (by assumption)]
        rw [Lib.toList_data, Lib.toList_data]
        rfl
      · cases h
    · rename_i xs ys
      split at h
      · rename_i fs hund
        rw [cond_eq_ite] at h
        split at h
        · cases h
        · rename_i hst
          have hst : P.stoodInHeld t = false := by simpa using hst
          have hf : P.fieldsOf t = fs := by unfold Program.fieldsOf; rw [hund]
          have hv0 := hv
          have hu0 := hu
          cases hv with
          | agg _ cs hs h1 h2 =>
          cases hu with
          | agg _ ds hs' h1' h2' =>
          rw [run_equalIn_struct w m t cs ds (by rw [hf]; exact hund) hst, hf]
          exact eqFs_ok (fun t x y b v u => eqIn_ok n m (by omega) t x y b v u) hv0 hu0 _ _ h
      · cases h
    · cases h

def structEqE (P : Program) (op : BinOp) (t : TypeId) (x y : D) : Option D :=
  match x, y with
  | .agg _, .agg _ => bif P.eqGuardType P.depth t then none else (match eqIn P 40 t x y with
    | some b => eqRes op b
    | none => none)
  | _, _ => none

theorem structEq_ok {P : Program} {M : Mem} {w : World} {op : BinOp} {t : TypeId} {x y p : D} (he : structEqE P op t x y = some p) {v u : Value} (hv : R M x v) (hu : R M y u) (ox oy : Operand) :
    ∃ q, (do eqGuard op t ox oy v u; binOp op t v u : Sem Value).run P w = .ok q w ∧ R M p q := by
  unfold structEqE at he
  split at he
  case h_2 => cases he
  rename_i xs ys
  rw [cond_eq_ite] at he
  split at he
  · cases he
  rename_i hg
  have hg : P.eqGuardType P.depth t = false := by simpa using hg
  split at he
  case h_2 => cases he
  rename_i b hb
  have h1 := eqIn_ok (w := w) 40 10000 (by omega) t _ _ b v u hb hv hu
  cases hv with
  | agg _ cs hs h1' h2 =>
  cases hu with
  | agg _ ds hs' h1'' h2' =>
  rw [Sem.run_bind, run_eqGuard_agg w op t ox oy cs ds hg, Result.andThen_ok]
  unfold eqRes at he
  cases op <;> simp only [Option.some.injEq, reduceCtorEq] at he <;> subst he
  · exact ⟨.bool b, by rw [run_eql_struct, h1]; rfl, .lit _ trivial⟩
  · exact ⟨.bool (!b), by rw [run_neq_struct, h1]; rfl, .lit _ trivial⟩
end Go.Ev

/-
  Maps with texts as keys.
-/
namespace Go.Ev
open Go.Aw (litOk TI tiOf TIs tiOf_spec halloc_old halloc_new eqGuard_ok)

theorem R.litE {M : Mem} {v u : Value} (h : R M (.lit v) u) : u = v := by cases h; rfl

def vEqb : Value → Value → Bool
  | .bool a, .bool b => a == b
  | .int k a, .int k' b => decide (k = k') && decide (a = b)
  | .string a, .string b => decide (a.data.toList = b.data.toList)
  | .pointer none, .pointer none => true
  | .slice none 0 0, .slice none 0 0 => true
  | .nilFunc, .nilFunc => true
  | .nilIface, .nilIface => true
  | .map none, .map none => true
  | _, _ => false

theorem vEqb_eq {a b : Value} (h : vEqb a b = true) : a = b := by
  unfold vEqb at h
  split at h
  · rw [eq_of_beq h]
  · simp only [Bool.and_eq_true, decide_eq_true_eq] at h
    rw [h.1, h.2]
  · simp only [decide_eq_true_eq] at h
    congr 1
    exact ByteArray.ext (Array.ext' h)
  · rfl
  · rfl
  · rfl
  · rfl
  · rfl
  · cases h

def dV : Value → D
  | .agg cs => .agg (cs.toList.map .lit)
  | v => .lit v

theorem dV_R {M : Mem} {v : Value} (h : keyOk v) : R M (dV v) v := by
  cases v <;> first | exact .lit _ h | skip
  rename_i cs
  have h : ∀ c ∈ cs.toList, litOk c := h
  have get : ∀ (i : Nat) d, (cs.toList.map D.lit)[i]? = some d → ∃ c, cs[i]? = some c ∧ d = .lit c ∧ litOk c := fun i d hi => by
    simp only [List.getElem?_map, Array.getElem?_toList, Option.map_eq_some_iff] at hi
    obtain ⟨c, hc, rfl⟩ := hi
    exact ⟨c, hc, rfl, h c (by rw [Array.mem_toList_iff]; exact Array.mem_of_getElem? hc)⟩
  refine .agg _ _ (by simp) (fun i d hi => ?_) (fun i d hi => ?_)
  · obtain ⟨c, hc, rfl, ho⟩ := get i d hi
    rw [show cs.getD i undef = c by simp [Array.getD_eq_getD_getElem?, hc]]
    exact lit_one ho
  · obtain ⟨c, hc, rfl, ho⟩ := get i d hi
    rw [show cs.getD i undef = c by simp [Array.getD_eq_getD_getElem?, hc]]
    exact .lit _ ho

def litsOf : List D → Option (List Value)
  | [] => some []
  | .lit v :: r => (litsOf r).map (v :: ·)
  | _ => none

def keyVal : D → Option Value
  | .lit v => some v
  | .agg l => (litsOf l).map fun l => .agg l.toArray
  | _ => none

theorem litsOf_ok {M : Mem} : ∀ (l : List D) (vs : List Value), litsOf l = some vs → l.length = vs.length ∧ ∀ (i : Nat) v, vs[i]? = some v → l[i]? = some (.lit v)
  | [], vs, h => by simp only [litsOf, Option.some.injEq] at h; subst h; exact ⟨rfl, by simp⟩
  | d :: r, vs, h => by
    cases d <;> simp only [litsOf, reduceCtorEq] at h
    rename_i v
    simp only [Option.map_eq_some_iff] at h
    obtain ⟨q, h1, rfl⟩ := h
    obtain ⟨g1, g2⟩ := litsOf_ok (M := M) r q h1
    refine ⟨by simp [g1], fun i x hi => ?_⟩
    cases i with
    | zero => simpa using hi
    | succ i => simpa using g2 i x (by simpa using hi)

theorem keyVal_ok {M : Mem} {k : D} {s u : Value} (h : keyVal k = some s) (hu : R M k u) : u = s ∧ keyOk s := by
  unfold keyVal at h
  split at h
  · cases h
    cases hu with
    | lit v ho => exact ⟨rfl, by cases s <;> first | exact ho | exact ho.elim⟩
  · rename_i l
    simp only [Option.map_eq_some_iff] at h
    obtain ⟨vs, h1, rfl⟩ := h
    obtain ⟨g1, g2⟩ := litsOf_ok (M := M) l vs h1
    cases hu with
    | agg _ cs hs h2 h3 =>
    have at_ : ∀ (i : Nat) v, vs[i]? = some v → cs.getD i undef = v ∧ litOk v := fun i v hi => by
      have := h3 i _ (g2 i v hi)
      cases hr : this
      rename_i ho
      exact ⟨this.litE, ho⟩
    refine ⟨?_, fun c hc => ?_⟩
    · congr 1
      apply Array.ext
      · rw [hs, g1]; simp
      · intro i hi hj
        simp only [List.size_toArray] at hj
        have := (at_ i _ (List.getElem?_eq_getElem hj)).1
        simpa [Array.getD, hi] using this
    · simp only [List.mem_toArray, Array.mem_toList_iff] at hc
      obtain ⟨i, hi, rfl⟩ := List.getElem_of_mem hc
      exact (at_ i _ (List.getElem?_eq_getElem hi)).2
  · cases h

def vsEqb : List Value → List Value → Bool
  | [], [] => true
  | a :: r, b :: q => vEqb a b && vsEqb r q
  | _, _ => false

theorem vsEqb_eq : ∀ (a b : List Value), vsEqb a b = true → a = b
  | [], b, h => by cases b <;> simp only [vsEqb, Bool.false_eq_true] at h; rfl
  | a :: r, b, h => by
    cases b <;> simp only [vsEqb, Bool.false_eq_true, Bool.and_eq_true] at h
    rw [vEqb_eq h.1, vsEqb_eq _ _ h.2]

def aggEqb : Value → Value → Bool
  | .agg a, .agg b => vsEqb a.toList b.toList
  | _, _ => false

theorem aggEqb_eq {a b : Value} (h : aggEqb a b = true) : a = b := by
  cases a <;> cases b <;> simp only [aggEqb, Bool.false_eq_true] at h
  rw [Array.ext' (vsEqb_eq _ _ h)]

def bytesEqb (a b : ByteArray) : Bool := decide (a.data.toList = b.data.toList)

theorem bytesEqb_iff {a b : ByteArray} : bytesEqb a b = true ↔ a = b := by
  unfold bytesEqb
  simp only [decide_eq_true_eq]
  exact ⟨fun h => ByteArray.ext (Array.ext' h), fun h => by rw [h]⟩

/-- Where a key stands, and what stands there. -/
def eqK : Value → Value → Option Bool
  | .string a, .string b => some (bytesEqb a b)
  | .int k a, .int k' b => bif decide (k = k') then some (decide (a = b)) else none
  | _, _ => none

def litKey : TypeDesc → Value → Bool
  | .string, .string _ => true
  | .int j, .int j' _ => decide (j = j')
  | _, _ => false

theorem litKey_is {d : TypeDesc} {k : Value} (h : litKey d k = true) : MapKept.IsKey d k := by
  unfold litKey at h
  split at h
  · trivial
  · simp only [decide_eq_true_eq] at h
    exact h.symm
  · cases h

theorem eqK_same {d : TypeDesc} {k v : Value} {b : Bool} (hk : litKey d k = true) (h : eqK k v = some b) : Instr.sameNow d k v = some b ∧ (b = true → k = v) := by
  unfold eqK at h
  split at h
  · rename_i x y
    cases h
    unfold litKey at hk
    split at hk
    · rename_i z hz
      cases hz
      have : (x == y) = bytesEqb x y := by
        cases hb : bytesEqb x y with
        | true => exact (MapKept.bytes_beq x y).2 (bytesEqb_iff.1 hb)
        | false =>
          cases hc : (x == y) with
          | false => rfl
          | true => have := bytesEqb_iff.2 ((MapKept.bytes_beq x y).1 hc); rw [hb] at this; cases this
      exact ⟨by show some (x == y) = _; rw [this], fun hb => by rw [bytesEqb_iff.1 hb]⟩
    · rename_i hz; cases hz
    · cases hk
  · rename_i k1 x k2 y
    obtain ⟨hkk, h2⟩ := bif_some h
    clear h
    simp only [decide_eq_true_eq] at hkk
    subst hkk
    cases h2
    unfold litKey at hk
    split at hk
    · rename_i hz; cases hz
    · rename_i hz
      cases hz
      refine ⟨?_, fun hb => by rw [of_decide_eq_true hb]⟩
      show (if k1 = k1 then some (x == y) else none) = _
      rw [if_pos rfl]
      rfl
    · cases hk
  · cases h

def findI (k : Value) : List (Value × D) → Nat → Option (Option (Nat × D))
  | [], _ => some none
  | (v, d) :: r, i => (match eqK k v with
    | some true => some (some (i, d))
    | some false => findI k r (i + 1)
    | none => none)

/-- Entries stand for data. -/
def EsR (M : Mem) (es : List (Value × D)) (l : List MapEntry) : Prop := l.length = es.length ∧ ∀ (i : Nat) p, es[i]? = some p → ∃ e, l[i]? = some e ∧ e.key = p.1 ∧ R M p.2 e.val

theorem findI_ok {M : Mem} {d : TypeDesc} (k : Value) (hk : litKey d k = true) : ∀ (es : List (Value × D)) (l : List MapEntry) (i : Nat) (r : Option (Nat × D)), findI k es i = some r → EsR M es l →
    ∃ q, Instr.findNow d k l i = some q ∧ (match r with
      | none => q = none
      | some (j, x) => ∃ v e, q = some (j, v) ∧ R M x v ∧ i ≤ j ∧ j < i + es.length ∧ l[j - i]? = some e ∧ e.key = k)
  | [], l, i, r, h, hl => by
    simp only [findI, Option.some.injEq] at h
    subst h
    have : l = [] := List.eq_nil_of_length_eq_zero hl.1
    subst this
    exact ⟨none, rfl, rfl⟩
  | (s, x) :: es, l, i, r, h, hl => by
    simp only [findI] at h
    obtain ⟨hlen, hl⟩ := hl
    cases l with
    | nil => simp at hlen
    | cons e l =>
    obtain ⟨e', q1, q2, q3⟩ := hl 0 _ rfl
    simp only [List.getElem?_cons_zero, Option.some.injEq] at q1
    subst q1
    simp only at q2 q3
    split at h
    · rename_i hb
      obtain ⟨hs, hv⟩ := eqK_same hk hb
      rw [← q2] at hs
      have hv := hv rfl
      cases h
      exact ⟨some (i, e.val), by simp [Instr.findNow, hs], e.val, e, rfl, q3, Nat.le_refl _, by simp, by simp, q2.trans hv.symm⟩
    · rename_i hb
      obtain ⟨hs, _⟩ := eqK_same hk hb
      rw [← q2] at hs
      obtain ⟨q, g1, g2⟩ := findI_ok k hk es l (i + 1) r h ⟨by simpa using hlen, fun j p hp => by have := hl (j + 1) p (by simpa using hp); simpa using this⟩
      refine ⟨q, by simp [Instr.findNow, hs, g1], ?_⟩
      cases r with
      | none => exact g2
      | some p =>
        obtain ⟨j, d'⟩ := p
        obtain ⟨v, e2, a1, a2, a3, a4, a5, a6⟩ := g2
        refine ⟨v, e2, a1, a2, by omega, by simp; omega, ?_, a6⟩
        rw [show j - i = (j - (i + 1)) + 1 by omega]
        simpa using a5
    · cases h

/-! ### Structs of letters as keys -/
def findA (P : Program) (kt : TypeId) (k : Value) : List (Value × D) → Nat → Option (Option (Nat × D))
  | [], _ => some none
  | (v, d) :: r, i => (match eqIn P 10 kt (dV k) (dV v) with
    | some true => bif aggEqb k v then some (some (i, d)) else none
    | some false => findA P kt k r (i + 1)
    | none => none)

theorem findA_ok {P : Program} {M : Mem} {w : World} {kt : TypeId} (k : Value) (hk : keyOk k) : ∀ (es : List (Value × D)) (l : List MapEntry) (i : Nat) (r : Option (Nat × D)), findA P kt k es i = some r → EsR M es l → (∀ (i : Nat) p, es[i]? = some p → keyOk p.1) →
    ∃ q, (Instr.findAsking kt k l i).run P w = .ok q w ∧ (match r with
      | none => q = none
      | some (j, x) => ∃ v e, q = some (j, v) ∧ R M x v ∧ i ≤ j ∧ j < i + es.length ∧ l[j - i]? = some e ∧ e.key = k)
  | [], l, i, r, h, hl, _ => by
    simp only [findA, Option.some.injEq] at h
    subst h
    have : l = [] := List.eq_nil_of_length_eq_zero hl.1
    subst this
    exact ⟨none, rfl, rfl⟩
  | (s, x) :: es, l, i, r, h, hl, ho => by
    simp only [findA] at h
    obtain ⟨hlen, hl⟩ := hl
    cases l with
    | nil => simp at hlen
    | cons e l =>
    obtain ⟨e', q1, q2, q3⟩ := hl 0 _ rfl
    simp only [List.getElem?_cons_zero, Option.some.injEq] at q1
    subst q1
    simp only at q2 q3
    have run : ∀ b, eqIn P 10 kt (dV k) (dV s) = some b → (Op.equal kt k e.key).run P w = .ok b w := fun b hb => by
      rw [q2]
      exact eqIn_ok (M := M) 10 10000 (by omega) kt _ _ b k s hb (dV_R hk) (dV_R (ho 0 _ rfl))
    split at h
    · rename_i hb
      obtain ⟨hv, h⟩ := bif_some h
      have hv := aggEqb_eq hv
      cases h
      exact ⟨some (i, e.val), by simp [Instr.findAsking, run _ hb, Result.andThen], e.val, e, rfl, q3, Nat.le_refl _, by simp, by simp, q2.trans hv.symm⟩
    · rename_i hb
      obtain ⟨q, g1, g2⟩ := findA_ok (w := w) k hk es l (i + 1) r h ⟨by simpa using hlen, fun j p hp => by have := hl (j + 1) p (by simpa using hp); simpa using this⟩ (fun j p hp => ho (j + 1) p (by simpa using hp))
      refine ⟨q, by simp [Instr.findAsking, run _ hb, Result.andThen, g1], ?_⟩
      cases r with
      | none => exact g2
      | some p =>
        obtain ⟨j, d'⟩ := p
        obtain ⟨v, e2, a1, a2, a3, a4, a5, a6⟩ := g2
        refine ⟨v, e2, a1, a2, by omega, by simp; omega, ?_, a6⟩
        rw [show j - i = (j - (i + 1)) + 1 by omega]
        simpa using a5
    · cases h

/-- The fields of a struct that is a key. -/
def fieldsOk (P : Program) (l : List D) : List Field → Bool
  | [] => true
  | f :: r => !(f.name == "_") && ((match tiOf P f.type, P.underlying f.type with
    | some ti, some d => (match partE ti l f.offset with
      | some (.lit v) => litKey d v
      | _ => false)
    | _, _ => false) && fieldsOk P l r)

theorem fields_run {P : Program} {M : Mem} {w : World} {l : List D} {cs : Array Value} (hR : R M (.agg l) (.agg cs)) (em : Bool) (n : Nat) : ∀ fs : List Field, fieldsOk P l fs = true →
    (forIn fs PUnit.unit fun (f : Field) (_ : PUnit) => (do
      if f.name ≠ "_" then Instr.checkKey em (n + 1) f.type (← part f.type cs f.offset)
      pure (ForInStep.yield PUnit.unit) : Sem (ForInStep PUnit))).run P w = .ok PUnit.unit w
  | [], _ => by simp
  | f :: r, h => by
    simp only [fieldsOk, Bool.and_eq_true, Bool.not_eq_true'] at h
    obtain ⟨hn, hm, hr⟩ := h
    have hn : f.name ≠ "_" := by simpa using hn
    split at hm
    case h_2 => cases hm
    rename_i ti d hti hd
    split at hm
    case h_2 => cases hm
    rename_i v hv
    obtain ⟨i, dd, z, ht⟩ := tiOf_spec hti
    cases hR with
    | agg _ _ hs h1 h2 =>
    obtain ⟨va, e1, e2⟩ := part_ok ht w hs h1 h2 hv
    have := e2.litE
    subst this
    have p2 := MapKept.run_checkKey (w := w) hd (litKey_is hm) em n
    have ih := fields_run (w := w) (.agg _ _ hs h1 h2) em n r hr
    simp only [List.forIn_cons, Sem.run_bind, hn, ne_eq, not_false_eq_true, if_true, Result.andThen_ok, e1, p2, Sem.run_pure]
    exact ih

def letterB : Value → Bool
  | .bool _ => true
  | .int _ _ => true
  | .string _ => true
  | _ => false

theorem letter_same {v : Value} (h : letterB v = true) (n : Nat) : Instr.sameBits n v v = true := by
  cases v <;> simp only [letterB, Bool.false_eq_true] at h
  · cases n <;> simp [Instr.sameBits]
  · cases n <;> simp [Instr.sameBits]
  · rename_i s
    have : (s == s) = true := (MapKept.bytes_beq s s).2 rfl
    cases n <;> simp [Instr.sameBits, this]

theorem zip_same (n : Nat) : ∀ l : List Value, l.all letterB = true → ((l.zip l).all fun (x, y) => Instr.sameBits n x y) = true
  | [], _ => rfl
  | v :: l, h => by
    simp only [List.all_cons, Bool.and_eq_true] at h
    simp only [List.zip_cons_cons, List.all_cons, letter_same h.1, zip_same n l h.2, Bool.and_self]

theorem agg_stays {P : Program} {w : World} {cs : Array Value} (h : cs.toList.all letterB = true) : (Instr.keyThatStays (.agg cs) (.agg cs)).run P w = .ok (.agg cs) w := by
  have : Instr.sameBits (9999 + 1) (.agg cs) (.agg cs) = true := by
    show (cs.size == cs.size && (cs.toList.zip cs.toList).all fun (x, y) => Instr.sameBits 9999 x y) = true
    rw [zip_same 9999 _ h]
    simp
  unfold Instr.keyThatStays
  rw [show (10000 : Nat) = 9999 + 1 from rfl, this]
  rfl

/-- What a map asks of a key. -/
def keyE (P : Program) (kt : TypeId) (k : Value) : Bool :=
  match P.underlying kt with
  | some (.struct fs) => (match k with
    | .agg cs => fieldsOk P (cs.toList.map .lit) fs.toList && cs.toList.all letterB
    | _ => false)
  | some d => litKey d k
  | none => false

def findG (P : Program) (kt : TypeId) (k : Value) (es : List (Value × D)) : Option (Option (Nat × D)) :=
  match P.underlying kt with
  | some (.struct _) => findA P kt k es 0
  | _ => findI k es 0
theorem findG_ok {P : Program} {M : Mem} {w : World} {kt : TypeId} {k : Value} {es : List (Value × D)} {l : List MapEntry} {r : Option (Nat × D)} (hk : keyE P kt k = true) (ho : keyOk k) (hE : EsR M es l) (hko : ∀ (i : Nat) p, es[i]? = some p → keyOk p.1) (h : findG P kt k es = some r) :
    (∀ e, (Instr.checkKey e 10000 kt k).run P w = .ok () w) ∧ (Instr.keyThatStays k k).run P w = .ok k w ∧ ∃ q, (Instr.findKey kt k l).run P w = .ok q w ∧ (match r with
      | none => q = none
      | some (j, x) => ∃ v e, q = some (j, v) ∧ R M x v ∧ j < es.length ∧ l[j]? = some e ∧ e.key = k) := by
  have lits : ∀ d, P.underlying kt = some d → litKey d k = true → findI k es 0 = some r → (∀ e, (Instr.checkKey e 10000 kt k).run P w = .ok () w) ∧ (Instr.keyThatStays k k).run P w = .ok k w ∧ ∃ q, (Instr.findKey kt k l).run P w = .ok q w ∧ (match r with
      | none => q = none
      | some (j, x) => ∃ v e, q = some (j, v) ∧ R M x v ∧ j < es.length ∧ l[j]? = some e ∧ e.key = k) := by
    intro d hd hl hf
    refine ⟨fun e => MapKept.run_checkKey hd (litKey_is hl) e 9999, MapKept.run_keyThatStays (litKey_is hl), ?_⟩
    obtain ⟨q, g1, g2⟩ := findI_ok (M := M) k hl es l 0 r hf hE
    refine ⟨q, MapKept.run_findKey hd g1, ?_⟩
    cases r with
    | none => exact g2
    | some p =>
      obtain ⟨j, x⟩ := p
      obtain ⟨v, e, a1, a2, _, a4, a5, a6⟩ := g2
      exact ⟨v, e, a1, a2, by omega, by simpa using a5, a6⟩
  unfold keyE at hk
  unfold findG at h
  split at hk
  · rename_i fs hd
    split at hk
    case h_2 => cases hk
    rename_i cs
    simp only [Bool.and_eq_true] at hk
    rw [hd] at h
    simp only at h
    refine ⟨fun e => ?_, agg_stays hk.2, ?_⟩
    · have e1 : Instr.checkKey e 10000 kt (.agg cs) = Instr.checkKey e (9999 + 1) kt (.agg cs) := rfl
      rw [e1, Instr.checkKey]
      simp only [Sem.run_bind, run_underlying hd, Result.andThen_ok]
      rw [← Array.forIn_toList]
      have := fields_run (M := M) (w := w) (dV_R ho) e 9998 fs.toList hk.1
      simp at this
      simp
      rw [this]
      rfl
    · obtain ⟨q, g1, g2⟩ := findA_ok (w := w) _ ho es l 0 r h hE hko
      refine ⟨q, ?_, ?_⟩
      · cases es with
        | nil =>
          have : l = [] := List.eq_nil_of_length_eq_zero hE.1
          subst this
          simp only [Instr.findAsking, Sem.run_pure] at g1
          cases g1
          simp [Instr.findKey, run_underlying hd, Result.andThen, Instr.findNow]
        | cons p es =>
          cases l with
          | nil => have := hE.1; simp at this
          | cons e l =>
            have : Instr.findNow (.struct fs) (.agg cs) (e :: l) 0 = none := rfl
            simp [Instr.findKey, run_underlying hd, Result.andThen, this, g1]
      · cases r with
        | none => exact g2
        | some p =>
          obtain ⟨j, x⟩ := p
          obtain ⟨v, e, a1, a2, _, a4, a5, a6⟩ := g2
          exact ⟨v, e, a1, a2, by omega, by simpa using a5, a6⟩
  · rename_i d hns hd
    refine lits d hd hk ?_
    rw [hd] at h
    split at h
    · rename_i fs hfs; cases hfs; exact absurd rfl (hns _)
    · exact h
  · cases hk

def zeroD (ti : TI) : Option D := bif ti.agg then some (.agg (ti.z.map zD)) else (match ti.z with
  | [y] => some (zD y)
  | _ => none)

theorem zeroD_ok {P : Program} {t : TypeId} {ti : TI} {i : TypeInfo} {d : TypeDesc} {z : Value} (ht : TIs P t ti i d z) {x : D} (hx : zeroD ti = some x) (M : Mem) (w : World) : (zeroValue t).run P w = .ok z w ∧ R M x z := by
  refine ⟨by simp [zeroValue, typeInfo, ht.info, ht.zero], ?_⟩
  obtain ⟨h1, h2⟩ := zeros_get ht M
  unfold zeroD at hx
  have hag := ht.ag
  cases ha : ti.agg with
  | true =>
    rw [ha] at hx hag
    cases hx
    cases z <;> simp only [Aw.isAggV, Bool.false_eq_true] at hag
    exact .agg _ _ h1 (fun i d hi => (h2 i d hi).1) (fun i d hi => (h2 i d hi).2)
  | false =>
    rw [ha] at hx hag
    simp only [cond_false] at hx
    split at hx
    case h_2 => cases hx
    rename_i y hy
    cases hx
    have := h2 0 (zD y) (by rw [hy]; rfl)
    have hz : z.cells.getD 0 undef = z := by cases z <;> first | rfl | simp [Aw.isAggV] at hag
    rw [hz] at this
    exact this.2

def pairOkD (c : Bool) (d : D) (b : Bool) : D := bif c then .tup [d, .lit (.bool b)] else d

def mapTI (P : Program) (t : TypeId) (k : Value) : Option (TI × TypeId) :=
  match P.underlying t with
  | some (.map kt et) => bif keyE P kt k then (tiOf P et).map (·, kt) else none
  | _ => none

def lookupE (P : Program) (h : H) (t : TypeId) (x k : D) (c : Bool) : Option D :=
  match keyVal k with
  | some s => (match mapTI P t s with
    | some (ti, kt) => (match x with
      | .lit (.map none) => (zeroD ti).map fun z => pairOkD c z false
      | .mp l => (match h.hp.get l with
        | some (.map es) => (match findG P kt s es with
          | some (some (_, d)) => some (pairOkD c d true)
          | some none => (zeroD ti).map fun z => pairOkD c z false
          | none => none)
        | _ => none)
      | _ => none)
    | none => none)
  | _ => none

theorem pairOk_R {M : Mem} {c : Bool} {d : D} {v : Value} (b : Bool) (h : R M d v) : R M (pairOkD c d b) (if c then .tuple #[v, .bool b] else v) := by
  cases c with
  | false => exact h
  | true =>
    refine .tup _ _ rfl (fun i x hi => ?_)
    match i, hi with
    | 0, hi => simp at hi; subst hi; exact h
    | 1, hi => simp at hi; subst hi; exact .lit _ trivial
    | i + 2, hi => simp at hi

theorem lookup_ok {P : Program} {M : Mem} {h : H} {w : World} (hr : RH M h w) {t : TypeId} {x k d : D} {c : Bool} (he : lookupE P h t x k c = some d) {v u : Value} (hv : R M x v) (hu : R M k u) : ∃ q, (Instr.lookup t v u c).run P w = .ok q w ∧ R M d q := by
  unfold lookupE at he
  split at he
  case h_2 => cases he
  rename_i s hs
  obtain ⟨rfl, hko⟩ := keyVal_ok hs hu
  split at he
  case h_2 => cases he
  rename_i ti kt hti
  unfold mapTI at hti
  split at hti
  case h_2 => cases hti
  rename_i kt' et hm
  obtain ⟨hke, hti2⟩ := bif_some hti
  clear hti
  simp only [Option.map_eq_some_iff, Prod.mk.injEq] at hti2
  obtain ⟨ti', hti, rfl, rfl⟩ := hti2
  obtain ⟨it, dt, zt, ht⟩ := tiOf_spec hti
  split at he
  · simp only [Option.map_eq_some_iff] at he
    obtain ⟨z, hz, rfl⟩ := he
    have hv := hv.litE
    subst hv
    obtain ⟨g1, g2⟩ := zeroD_ok ht hz M w
    refine ⟨_, ?_, pairOk_R false g2⟩
    have hfg : findG P kt' u [] = some none := by unfold findG; split <;> rfl
    obtain ⟨hck, _, q, hf, hq⟩ := findG_ok (M := M) (w := w) (l := []) hke hko ⟨rfl, fun i p hp => by simp at hp⟩ (fun i p hp => by simp at hp) hfg
    simp only at hq
    subst hq
    simp only [Instr.lookup, Sem.run_bind, run_underlying hm, Result.andThen_ok, Sem.run_pure, hck, hf, g1]
  · rename_i l
    split at he
    case h_2 => cases he
    rename_i es hl
    cases hv with
    | mp _ b ha =>
    obtain ⟨c0, _, arr, g2, g3, g4⟩ := hr.look hl ha
    have hes : EsR M es arr.toList := ⟨by simpa using g3, fun i p hp => by obtain ⟨e, q1, q2, q3, _⟩ := g4 i p hp; exact ⟨e, by simpa using q1, q2, q3⟩⟩
    have hkos : ∀ (i : Nat) p, es[i]? = some p → keyOk p.1 := fun i p hp => by obtain ⟨e, _, _, _, _, q⟩ := g4 i p hp; exact q
    split at he
    · rename_i j d0 hfi
      cases he
      obtain ⟨hck, _, q, hf, vv, e, rfl, k2, _⟩ := findG_ok (M := M) (w := w) hke hko hes hkos hfi
      refine ⟨_, ?_, pairOk_R true k2⟩
      simp only [Instr.lookup, Sem.run_bind, run_underlying hm, Result.andThen_ok, Sem.run_pure, MapKept.run_getObj_map g2, hck, hf]
    · rename_i hfi
      simp only [Option.map_eq_some_iff] at he
      obtain ⟨z, hz, rfl⟩ := he
      obtain ⟨hck, _, q, hf, hq⟩ := findG_ok (M := M) (w := w) hke hko hes hkos hfi
      simp only at hq
      subst hq
      obtain ⟨y1, y2⟩ := zeroD_ok ht hz M w
      refine ⟨_, ?_, pairOk_R false y2⟩
      simp only [Instr.lookup, Sem.run_bind, run_underlying hm, Result.andThen_ok, Sem.run_pure, MapKept.run_getObj_map g2, hck, hf, y1]
    · cases he
  · cases he

def mapUpdateE (P : Program) (h : H) (t : TypeId) (x k v : D) : Option H :=
  match keyVal k with
  | some s => (match mapTI P t s with
    | some (_, kt) => (match x with
      | .mp l => (match h.hp.get l with
        | some (.map es) => (match findG P kt s es with
          | some (some (j, _)) => some { h with hp := h.hp.set l (.map (es.set j (s, v))) }
          | some none => some { h with hp := h.hp.set l (.map (es ++ [(s, v)])) }
          | none => none)
        | _ => none)
      | _ => none)
    | none => none)
  | _ => none

theorem mapUpdate_ok {P : Program} {M : Mem} {h h' : H} {w : World} (hr : RH M h w) {t : TypeId} {x k d : D} (he : mapUpdateE P h t x k d = some h') {v u y : Value} (hv : R M x v) (hu : R M k u) (hy : R M d y) :
    ∃ w', (Instr.mapUpdate t v u y).run P w = .ok () w' ∧ RH M h' w' ∧ Ext M w M w' := by
  unfold mapUpdateE at he
  split at he
  case h_2 => cases he
  rename_i s hs
  obtain ⟨rfl, hsl⟩ := keyVal_ok hs hu
  split at he
  case h_2 => cases he
  rename_i ti kt hti
  unfold mapTI at hti
  split at hti
  case h_2 => cases hti
  rename_i kt' et hm
  obtain ⟨hke, hti2⟩ := bif_some hti
  clear hti
  simp only [Option.map_eq_some_iff, Prod.mk.injEq] at hti2
  obtain ⟨ti', hti, rfl, rfl⟩ := hti2
  split at he
  case h_2 => cases he
  rename_i l
  split at he
  case h_2 => cases he
  rename_i es hl
  cases hv with
  | mp _ b ha =>
  obtain ⟨c0, g1, arr, g2, g3, g4⟩ := hr.look hl ha
  have hes : EsR M es arr.toList := ⟨by simpa using g3, fun i p hp => by obtain ⟨e, q1, q2, q3, _⟩ := g4 i p hp; exact ⟨e, by simpa using q1, q2, q3⟩⟩
  have hkos : ∀ (i : Nat) p, es[i]? = some p → keyOk p.1 := fun i p hp => by obtain ⟨e, _, _, _, _, q⟩ := g4 i p hp; exact q
  have hlt : b < w.heap.size := (Array.getElem?_eq_some_iff.1 g2).1
  have fin : ∀ (arr' : Array MapEntry) (es' : List (Value × D)), (Instr.mapUpdate t (.map (some b)) u y).run P w = .ok () { w with heap := w.heap.setIfInBounds b (.map arr' es'.length) } →
      arr'.size = es'.length → (∀ (i : Nat) p, es'[i]? = some p → ∃ e, arr'[i]? = some e ∧ e.key = p.1 ∧ R M p.2 e.val ∧ e.born = i ∧ keyOk p.1) → h' = { h with hp := h.hp.set l (.map es') } →
      ∃ w', (Instr.mapUpdate t (.map (some b)) u y).run P w = .ok () w' ∧ RH M h' w' ∧ Ext M w M w' := by
    intro arr' es' h1 h2 h3 h4
    subst h4
    obtain ⟨k1, k2⟩ := hr.write (w' := { w with heap := w.heap.setIfInBounds b (.map arr' es'.length) }) g1 (.map es') rfl rfl rfl (by simp) (fun m hm => by simp [Array.getElem?_setIfInBounds_ne (Ne.symm hm)])
      ⟨arr', by simp [hlt], h2, h3⟩
    exact ⟨_, h1, k1, k2⟩
  split at he
  · rename_i j d0 hfi
    cases he
    obtain ⟨hck, hsb, q, hf, vv, e, rfl, k2, k4, k5, k6⟩ := findG_ok (M := M) (w := w) hke hsl hes hkos hfi
    have hj : arr[j]? = some e := by simpa using k5
    refine fin (arr.modify j fun e => { e with key := u, val := y }) (es.set j (u, d)) ?_ (by simp [g3]) (fun i p hp => ?_) rfl
    · rw [List.length_set]
      simp [Instr.mapUpdate, run_underlying hm, MapKept.run_getObj_map g2, hck, hf, hj, k6, hsb, MapKept.run_setObj_map _ g2, Result.andThen]
    · rw [List.getElem?_set] at hp
      by_cases hji : j = i
      · subst hji
        rw [if_pos rfl, if_pos k4] at hp
        cases hp
        obtain ⟨p0, hp0⟩ : ∃ p0, es[j]? = some p0 := ⟨_, List.getElem?_eq_getElem k4⟩
        obtain ⟨e', q1, _, _, q4, _⟩ := g4 j p0 hp0
        rw [hj] at q1
        cases q1
        exact ⟨{ e with key := u, val := y }, by simp [Array.getElem?_modify, hj], rfl, hy, q4, hsl⟩
      · rw [if_neg hji] at hp
        obtain ⟨e', q1, q2⟩ := g4 i p hp
        exact ⟨e', by rw [Array.getElem?_modify, if_neg hji]; exact q1, q2⟩
  · rename_i hfi
    cases he
    obtain ⟨hck, _, q, hf, k2⟩ := findG_ok (M := M) (w := w) hke hsl hes hkos hfi
    simp only at k2
    subst k2
    refine fin (arr.push { key := u, val := y, born := es.length }) (es ++ [(u, d)]) ?_ (by simp [g3]) (fun i p hp => ?_) rfl
    · rw [List.length_append]
      simp [Instr.mapUpdate, run_underlying hm, MapKept.run_getObj_map g2, hck, hf, MapKept.run_setObj_map _ g2, Result.andThen]
    · by_cases hi : i < es.length
      · rw [List.getElem?_append_left hi] at hp
        obtain ⟨e', q1, q2⟩ := g4 i p hp
        exact ⟨e', by rw [Array.getElem?_push, if_neg (by omega)]; exact q1, q2⟩
      · rw [List.getElem?_append_right (by omega)] at hp
        have hi0 : i - es.length = 0 := by
          have := (List.getElem?_eq_some_iff.1 hp).1
          simpa using this
        rw [hi0] at hp
        simp at hp
        subst hp
        exact ⟨_, by rw [Array.getElem?_push, if_pos (by omega)], rfl, hy, by show es.length = i; omega, hsl⟩
  · cases he

def makeMapE (h : H) : D × H := (.mp h.nx, { hp := h.hp.set h.nx (.map []), nx := h.nx + 1 })

theorem makeMap_ok {P : Program} {M : Mem} {h : H} {w : World} (hr : RH M h w) (t : TypeId) : ∃ u w' M', (Instr.makeMap t none).run P w = .ok u w' ∧ RH M' (makeMapE h).2 w' ∧ R M' (makeMapE h).1 u ∧ Ext M w M' w' := by
  obtain ⟨g1, g2⟩ := hr.fresh (w' := w.alloc (.map #[] 0)) (.map []) w.heap.size 0 rfl rfl rfl (by simp) (fun n hn => halloc_old w _ n hn) (by simp)
    (fun hle => ⟨#[], halloc_new w _, rfl, fun i p hp => by simp at hp⟩)
  exact ⟨.map (some w.heap.size), _, _, by simp [Instr.makeMap], g1, .mp _ _ ⟨by simp [Mem.set], fun b' c' e => by simp [Mem.set] at e; exact e.1.symm, by simp [Mem.set]⟩, g2⟩

/-! ### Ranges over maps that hold one entry at most -/
def rangeE (P : Program) (h : H) (t : TypeId) (x : D) : Option (D × H) :=
  match P.underlying t with
  | some (.map _ _) => (match x with
    | .lit (.map none) => some (.pt h.nx 0, { hp := h.hp.set h.nx (.mit none 0 [] 0), nx := h.nx + 1 })
    | .mp l => (match h.hp.get l with
      | some (.map es) => some (.pt h.nx 0, { hp := h.hp.set h.nx (.mit (some l) es.length [] es.length), nx := h.nx + 1 })
      | _ => none)
    | _ => none)
  | _ => none

theorem range_ok {P : Program} {M : Mem} {h h' : H} {w : World} (hr : RH M h w) {t : TypeId} {x y : D} (he : rangeE P h t x = some (y, h')) {v : Value} (hv : R M x v) :
    ∃ u w' M', (Instr.range t v).run P w = .ok u w' ∧ RH M' h' w' ∧ R M' y u ∧ Ext M w M' w' := by
  unfold rangeE at he
  split at he
  case h_2 => cases he
  rename_i kt et hm
  split at he
  · cases he
    have hv := hv.litE
    subst hv
    obtain ⟨g1, g2⟩ := hr.fresh (w' := w.alloc (.mapIter none 0 #[] 0)) (.mit none 0 [] 0) w.heap.size 0 rfl rfl rfl (by simp) (fun n hn => halloc_old w _ n hn) (by simp)
      (fun hle => ⟨none, halloc_new w _, trivial⟩)
    exact ⟨.pointer (some ⟨w.heap.size, 0, none⟩), _, _, by simp [Instr.range, run_underlying hm, Result.andThen], g1, .pt _ _ _ ⟨by simp [Mem.set], fun b' c' e => by simp [Mem.set] at e; exact e.1.symm, by simp [Mem.set]⟩, g2⟩
  · rename_i l
    split at he
    case h_2 => cases he
    rename_i es hl
    cases he
    cases hv with
    | mp _ b ha =>
    obtain ⟨c0, _, arr, q2, q3, q4⟩ := hr.look hl ha
    obtain ⟨g1, g2⟩ := hr.fresh (w' := w.alloc (.mapIter (some b) es.length #[] es.length)) (.mit (some l) es.length [] es.length) w.heap.size 0 rfl rfl rfl (by simp) (fun n hn => halloc_old w _ n hn) (by simp)
      (fun hle => ⟨some b, halloc_new w _, ha.mono hle⟩)
    exact ⟨.pointer (some ⟨w.heap.size, 0, none⟩), _, _, by simp [Instr.range, run_underlying hm, MapKept.run_getObj_map q2, Result.andThen], g1, .pt _ _ _ ⟨by simp [Mem.set], fun b' c' e => by simp [Mem.set] at e; exact e.1.symm, by simp [Mem.set]⟩, g2⟩
  · cases he

def nextE (h : H) (x : D) : Option (D × H) :=
  match x with
  | .pt i 0 => (match h.hp.get i with
    | some (.mit none _ _ _) => some (.tup [.lit (.bool false)], h)
    | some (.mit (some l) 0 [] _) => (match h.hp.get l with
      | some (.map []) => some (.tup [.lit (.bool false)], h)
      | _ => none)
    | some (.mit (some l) 1 [] _) => (match h.hp.get l with
      | some (.map [(k, d)]) => some (.tup [.lit (.bool true), dV k, d], { h with hp := h.hp.set i (.mit (some l) 1 [0] 1) })
      | _ => none)
    | some (.mit (some l) 1 [0] 1) => (match h.hp.get l with
      | some (.map [_]) => some (.tup [.lit (.bool false)], h)
      | _ => none)
    | _ => none)
  | _ => none

def entryE (h : H) (x : D) : Option D :=
  match x with
  | .pt i 0 => (match h.hp.get i with
    | some (.mit (some l) 1 [0] 1) => (match h.hp.get l with
      | some (.map [(k, d)]) => some (.tup [dV k, d])
      | _ => none)
    | _ => none)
  | _ => none

theorem run_getObj_it {P : Program} {w : World} {r : Nat} {a : Option Nat} {x : Nat} {y : Array Nat} {z : Nat} (hb : w.heap[r]? = some (.mapIter a x y z)) : (getObj r).run P w = .ok (.mapIter a x y z) w := by simp [getObj, Sem.run, hb]
theorem run_setObj_it {P : Program} {w : World} {r : Nat} {a : Option Nat} {x : Nat} {y : Array Nat} {z : Nat} (o' : Obj) (hb : w.heap[r]? = some (.mapIter a x y z)) : (setObj r o').run P w = .ok () { w with heap := w.heap.setIfInBounds r o' } := by simp [setObj, Sem.run, hb]

theorem tupF {M : Mem} : R M (.tup [.lit (.bool false)]) (.tuple #[.bool false]) := .tup _ _ rfl (fun i d hi => by
  cases i with
  | zero => simp at hi; subst hi; exact .lit _ trivial
  | succ i => simp at hi)

theorem one_entry {M : Mem} {arr : Array MapEntry} {k : Value} {d : D} (h2 : arr.size = 1) (h3 : ∀ (i : Nat) p, ([(k, d)] : List (Value × D))[i]? = some p → ∃ e, arr[i]? = some e ∧ e.key = p.1 ∧ R M p.2 e.val ∧ e.born = i ∧ keyOk p.1) :
    ∃ e : MapEntry, arr = #[e] ∧ e.key = k ∧ R M d e.val ∧ e.born = 0 ∧ keyOk k := by
  obtain ⟨e, q1, q2, q3, q4, q5⟩ := h3 0 (k, d) rfl
  refine ⟨e, ?_, q2, q3, q4, q5⟩
  apply Array.ext
  · simpa using h2
  · intro i hi hj
    have : i = 0 := by simp at hj; omega
    subst this
    have := Array.getElem?_eq_some_iff.1 q1
    simpa using this.2

theorem next_ok {P : Program} {M : Mem} {h h' : H} {w : World} (hr : RH M h w) {x y : D} (he : nextE h x = some (y, h')) {v : Value} (hv : R M x v) (t : TypeId) :
    ∃ u w', (Instr.next v false t).run P w = .ok u w' ∧ RH M h' w' ∧ R M y u ∧ Ext M w M w' := by
  unfold nextE at he
  split at he
  case h_2 => cases he
  rename_i i
  cases hv with
  | pt _ _ b ha =>
  split at he
  · rename_i hi
    cases he
    obtain ⟨c, _, ob, g2, g3⟩ := hr.look hi ha
    cases ob with
    | some _ => exact g3.elim
    | none => exact ⟨_, w, by simp [Instr.next, run_getObj_it g2, Result.andThen], hr, tupF, Ext.refl M w⟩
  · rename_i l hi
    split at he
    case h_2 => cases he
    rename_i hl
    cases he
    obtain ⟨c, _, ob, g2, g3⟩ := hr.look hi ha
    cases ob with
    | none => exact g3.elim
    | some bm =>
    obtain ⟨c', _, arr, k1, k2, _⟩ := hr.look hl g3
    have : arr = #[] := Array.eq_empty_of_size_eq_zero k2
    subst this
    exact ⟨_, w, by simp [Instr.next, run_getObj_it g2, MapKept.run_getObj_map k1, Result.andThen, Question.forced], hr, tupF, Ext.refl M w⟩
  · rename_i l last hi
    split at he
    case h_2 => cases he
    rename_i k d hl
    cases he
    obtain ⟨c, hμ, ob, g2, g3⟩ := hr.look hi ha
    cases ob with
    | none => exact g3.elim
    | some bm =>
    obtain ⟨c', _, arr, k1, k2, k3⟩ := hr.look hl g3
    obtain ⟨e, rfl, e1, e2, e3, e4⟩ := one_entry k2 k3
    have hlt : b < w.heap.size := (Array.getElem?_eq_some_iff.1 g2).1
    obtain ⟨y1, y2⟩ := hr.write (w' := { w with heap := w.heap.setIfInBounds b (.mapIter (some bm) 1 #[0] 1) }) hμ (.mit (some l) 1 [0] 1) rfl rfl rfl (by simp) (fun m hm => by simp [Array.getElem?_setIfInBounds_ne (Ne.symm hm)])
      ⟨some bm, by simp [hlt], g3⟩
    refine ⟨.tuple #[.bool true, e.key, e.val], _, ?_, y1, ?_, y2⟩
    · simp [Instr.next, run_getObj_it g2, MapKept.run_getObj_map k1, Result.andThen, Question.forced, e3, run_setObj_it _ g2]
    · refine .tup _ _ rfl (fun i x hi => ?_)
      match i, hi with
      | 0, hi => simp at hi; subst hi; exact .lit _ trivial
      | 1, hi => simp at hi; subst hi; show R M (dV k) e.key; rw [e1]; exact dV_R e4
      | 2, hi => simp at hi; subst hi; exact e2
      | i + 3, hi => simp at hi
  · rename_i l hi
    split at he
    case h_2 => cases he
    rename_i p hl
    cases he
    obtain ⟨c, _, ob, g2, g3⟩ := hr.look hi ha
    cases ob with
    | none => exact g3.elim
    | some bm =>
    obtain ⟨c', _, arr, k1, k2, k3⟩ := hr.look hl g3
    obtain ⟨k, d⟩ := p
    obtain ⟨e, rfl, e1, e2, e3, e4⟩ := one_entry k2 k3
    exact ⟨_, w, by simp [Instr.next, run_getObj_it g2, MapKept.run_getObj_map k1, Result.andThen, Question.forced, e3], hr, tupF, Ext.refl M w⟩
  · cases he

theorem entry_ok {P : Program} {M : Mem} {h : H} {w : World} (hr : RH M h w) {x y : D} (he : entryE h x = some y) {v : Value} (hv : R M x v) : ∃ u, (Instr.entry v).run P w = .ok u w ∧ R M y u := by
  unfold entryE at he
  split at he
  case h_2 => cases he
  rename_i i
  cases hv with
  | pt _ _ b ha =>
  split at he
  case h_2 => cases he
  rename_i l hi
  split at he
  case h_2 => cases he
  rename_i k d hl
  cases he
  obtain ⟨c, _, ob, g2, g3⟩ := hr.look hi ha
  cases ob with
  | none => exact g3.elim
  | some bm =>
  obtain ⟨c', _, arr, k1, k2, k3⟩ := hr.look hl g3
  obtain ⟨e, rfl, e1, e2, e3, e4⟩ := one_entry k2 k3
  refine ⟨.tuple #[e.key, e.val], ?_, ?_⟩
  · simp [Instr.entry, run_getObj_it g2, MapKept.run_getObj_map k1, Result.andThen, e3]
  · refine .tup _ _ rfl (fun i x hi => ?_)
    match i, hi with
    | 0, hi => simp at hi; subst hi; show R M (dV k) e.key; rw [e1]; exact dV_R e4
    | 1, hi => simp at hi; subst hi; exact e2
    | i + 2, hi => simp at hi

def mapNilE (P : Program) (op : BinOp) (t : TypeId) (x y : D) : Option D :=
  match P.underlying t with
  | some (.map _ _) => (match x, y with
    | .mp _, .lit (.map none) => eqRes op false
    | .lit (.map none), .lit (.map none) => eqRes op true
    | _, _ => none)
  | _ => none

theorem mapNil_ok {P : Program} {M : Mem} {w : World} {op : BinOp} {t : TypeId} {x y p : D} (he : mapNilE P op t x y = some p) {v u : Value} (hv : R M x v) (hu : R M y u) (ox oy : Operand) :
    ∃ q, (do eqGuard op t ox oy v u; binOp op t v u : Sem Value).run P w = .ok q w ∧ R M p q := by
  unfold mapNilE at he
  split at he
  case h_2 => cases he
  rename_i kt et hund
  have eqm : ∀ (a b : Option Nat) (bb : Bool), (match a, b with | none, b => b.isNone | some _, none => false | _, _ => !bb) = bb → (Op.equal t (.map a) (.map b)).run P w = .ok bb w := by
    intro a b bb hb
    have e : (Op.equal t (.map a) (.map b)).run P w = (Op.equalIn (9999 + 1) t (.map a) (.map b)).run P w := rfl
    rw [e]
    unfold Op.equalIn
    rw [Sem.run_bind, run_underlying hund, Result.andThen_ok]
    cases a with
    | none => simp only at hb; subst hb; rfl
    | some a =>
      cases b with
      | none => simp only at hb; subst hb; rfl
      | some b => cases bb <;> simp at hb
  have fin : ∀ (v u : Value) (bb : Bool), (∀ cs ds, ¬ (v = .agg cs ∧ u = .agg ds)) → ¬ (v = .nilIface ∧ u = .nilIface) → (Op.equal t v u).run P w = .ok bb w → eqRes op bb = some p →
      binOp .eql t v u = (do pure (.bool (← Op.equal t v u)) : Sem Value) → binOp .neq t v u = (do pure (.bool (!(← Op.equal t v u))) : Sem Value) →
      ∃ q, (do eqGuard op t ox oy v u; binOp op t v u : Sem Value).run P w = .ok q w ∧ R M p q := by
    intro v u bb n1 n2 h1 h2 b1 b2
    rw [Sem.run_bind, eqGuard_ok op t ox oy _ _ n1 n2, Result.andThen_ok]
    unfold eqRes at h2
    cases op <;> simp only [Option.some.injEq, reduceCtorEq] at h2 <;> subst h2
    · exact ⟨.bool bb, by rw [b1]; simp [h1], .lit _ trivial⟩
    · exact ⟨.bool (!bb), by rw [b2]; simp [h1], .lit _ trivial⟩
  split at he
  · cases hv with
    | mp _ b ha =>
    have hu := hu.litE
    subst hu
    exact fin _ _ false (by simp) (by simp) (eqm (some b) none false rfl) he rfl rfl
  · have hv := hv.litE
    have hu := hu.litE
    subst hv hu
    exact fin _ _ true (by simp) (by simp) (eqm none none true rfl) he rfl rfl
  · cases he
end Go.Ev

/-
  Slices are cleared.
-/
namespace Go.Ev
open Go.Aw (litOk Z TK TI kOf isAggV tiOf TIs tiOf_spec getD_toArray_append3 get_append3 und_sl)

def clearE (P : Program) (h : H) (t : TypeId) (x : D) : Option (D × H) :=
  match tiOf P t with
  | some { k := .sl e, .. } => (match tiOf P e with
    | some ti => (match x with
      | .lit (.slice none 0 0) => some (.tup [], h)
      | .em => some (.tup [], h)
      | .sl l off len _ => bif Nat.blt 0 ti.size then (match len with
        | 0 => some (.tup [], h)
        | n + 1 => (match h.hp.get l with
          | some (.cells ty op ds) => bif Nat.ble (off + (n + 1) * ti.size) ds.length then
              some (.tup [], { h with hp := h.hp.set l (.cells ty op (ds.take off ++ zerosE ti (n + 1) ++ ds.drop (off + (n + 1) * ti.size))) }) else none
          | _ => none)) else none
      | _ => none)
    | none => none)
  | _ => none

theorem clear_ok {P : Program} {M : Mem} {h h' : H} {w : World} (hr : RH M h w) {t ty : TypeId} {x p : D} (he : clearE P h t x = some (p, h')) {v : Value} (hv : R M x v) :
    ∃ q w', (Builtin.clear_ #[t] ty #[v]).run P w = .ok q w' ∧ RH M h' w' ∧ R M p q ∧ Ext M w M w' := by
  unfold clearE at he
  split at he
  case h_2 => cases he
  rename_i tsize tbytes e tz htt
  obtain ⟨it, dt, zt, ht⟩ := tiOf_spec htt
  have hte := und_sl ht rfl
  split at he
  case h_2 => cases he
  rename_i ti hti
  obtain ⟨i, d, z, hi⟩ := tiOf_spec hti
  have unit : R M (.tup []) (.tuple #[]) := .tup _ _ rfl (fun i d hi => by simp at hi)
  have nothing : ∀ (a : Option Addr) (k : Nat), (Builtin.clear_ #[t] ty #[.slice a 0 k]).run P w = .ok (.tuple #[]) w := fun a k => by
    cases a <;> simp [Builtin.clear_, run_underlying hte]
  split at he
  · cases he
    have hv := hv.litE
    subst hv
    exact ⟨_, w, nothing _ _, hr, unit, Ext.refl M w⟩
  · cases he
    cases hv
    exact ⟨_, w, nothing _ _, hr, unit, Ext.refl M w⟩
  · rename_i l off len cap
    obtain ⟨hsz, he⟩ := bif_some he
    simp only [Nat.blt_eq] at hsz
    cases hv with
    | sl _ _ _ _ b k ha hk h0 hlk hmk =>
    cases len with
    | zero =>
      cases he
      exact ⟨_, w, nothing _ _, hr, unit, Ext.refl M w⟩
    | succ n =>
    simp only at he
    split at he
    case h_2 => cases he
    rename_i ty' op cs hcs
    obtain ⟨hle, he⟩ := bif_some he
    simp only [Nat.ble_eq] at hle
    cases he
    obtain ⟨c, hl, cur, hc1, hc2, hc3⟩ := hr.look hcs ha
    have hcsz : cs.length ≤ cur.size := by
      cases op with
      | none => simp only at hc2; omega
      | some q => exact hc2.1
    have hzc : z.cells.size = ti.size := by rw [← Array.length_toList, hi.cells]; simpa using hi.len
    have hzl := zerosE_length ti hi.len (n + 1)
    generalize hnews : (Builtin.zeroCells z.cells (n + 1)).toList = news
    have hnl : news.length = (n + 1) * ti.size := by rw [← hnews]; simp [Builtin.zeroCells, hzc]
    have hnat : ∀ (j : Nat), j < (n + 1) * ti.size → news.getD j undef = z.cells[j % z.cells.size]! := fun j hj => by
      rw [← hnews]
      simp [Builtin.zeroCells, List.getD_eq_getElem?_getD, hzc, hj]
    have hone : ∀ v ∈ news, v.oneCell' = true := fun v hm => by
      obtain ⟨j, hj, rfl⟩ := List.getElem_of_mem hm
      have := hnat j (by omega)
      rw [List.getD_eq_getElem?_getD, List.getElem?_eq_getElem hj] at this
      simp only [Option.getD_some] at this
      rw [this]
      exact (zeros_cells hi hsz M (n + 1) j _ (List.getElem?_eq_getElem (by rw [hzl]; omega))).1
    have h2 : off + news.length ≤ cur.size := by rw [hnl]; omega
    have hst := run_storeCells_at P b off ty' news 0 cur w hc1 (by simpa using h2) hone
    simp only [Nat.add_zero] at hst
    have hrun : (Builtin.clear_ #[t] ty #[.slice (some ⟨b, off, none⟩) (n + 1) k]).run P w = .ok (.tuple #[]) (w.setRow b (cur.toList.take off ++ news ++ cur.toList.drop (off + news.length)).toArray) := by
      simp [Builtin.clear_, run_underlying hte, zeroValue, typeInfo, hi.info, hi.zero, hnews, hst]
    have wsize : (cur.toList.take off ++ news ++ cur.toList.drop (off + news.length)).toArray.size = cur.size := by
      simp only [List.size_toArray, List.length_append, List.length_take, List.length_drop, Array.length_toList]; omega
    obtain ⟨g1, g2⟩ := hr.write (w' := w.setRow b (cur.toList.take off ++ news ++ cur.toList.drop (off + news.length)).toArray) hl
      (.cells ty' op (cs.take off ++ zerosE ti (n + 1) ++ cs.drop (off + (n + 1) * ti.size))) rfl rfl rfl (by simp) (fun m hm => setRow_other w b m _ (fun q => hm q))
      ⟨_, setRow_heap w b cur _ ty' (0, 0) hc1, by
        rw [wsize]
        have : (cs.take off ++ zerosE ti (n + 1) ++ cs.drop (off + (n + 1) * ti.size)).length = cs.length := by
          simp only [List.length_append, List.length_take, List.length_drop, hzl]; omega
        cases op with
        | none => simp only [this] at hc2 ⊢; exact hc2
        | some q => simp only [this] at hc2 ⊢; exact hc2, fun j q hj => by
          rw [get_append3] at hj
          rw [getD_toArray_append3]
          have m1 : min off cs.length = off := by omega
          have m2 : min off cur.size = off := by omega
          simp only [List.length_take, Array.length_toList, m1, m2, hnl, hzl] at hj ⊢
          split
          · rename_i q1
            rw [if_pos q1, List.getElem?_take_of_lt q1] at hj
            rw [show (cur.toList.take off).getD j undef = cur.getD j undef by simp [List.getD_eq_getElem?_getD, List.getElem?_take_of_lt q1, Array.getD_eq_getD_getElem?]]
            exact hc3 j q hj
          · rename_i q1
            rw [if_neg q1] at hj
            split
            · rename_i q2
              rw [if_pos q2] at hj
              rw [hnat _ (by omega)]
              exact zeros_cells hi hsz M (n + 1) _ q hj
            · rename_i q2
              rw [if_neg q2, List.getElem?_drop] at hj
              rw [show (cur.toList.drop (off + (n + 1) * ti.size)).getD (j - off - (n + 1) * ti.size) undef = cur.getD (off + (n + 1) * ti.size + (j - off - (n + 1) * ti.size)) undef by simp [List.getD_eq_getElem?_getD, Array.getD_eq_getD_getElem?]]
              exact hc3 _ q hj⟩
    exact ⟨_, _, hrun, g1, unit, g2⟩
  · cases he

/-! ### How many stand in a map -/
def lenM (P : Program) (h : H) (t : TypeId) (x : D) : Option D :=
  match x with
  | .mp l => (match P.underlying t, h.hp.get l with
    | some (.map _ _), some (.map es) => some (.lit (goInt es.length))
    | _, _ => none)
  | _ => lenE P t x
theorem lenM_ok {P : Program} {M : Mem} {h : H} {w : World} (hr : RH M h w) {t ty : TypeId} {x y : D} (he : lenM P h t x = some y) {v : Value} (hv : R M x v) :
    ∃ q, (Builtin.len_ #[t] ty #[v]).run P w = .ok q w ∧ R M y q := by
  unfold lenM at he
  split at he
  · rename_i l
    split at he
    · rename_i kt et es ht hl
      cases he
      cases hv
      rename_i b hat
      obtain ⟨c0, _, arr, g2, g3, _⟩ := hr.look hl hat
      exact ⟨_, by simp [Builtin.len_, run_underlying ht, MapKept.run_getObj_map g2, g3, Result.andThen, goInt], .lit _ trivial⟩
    · cases he
  · exact len_ok he hv
end Go.Ev

/-
  Every operation but calls of Go's functions.
-/
namespace Go.Ev
open Go.Aw (litOk Z TK TI kOf isAggV tiOf TIs tiOf_spec WF)

def nilE : D → Option D
  | .pt l o => some (.pt l o)
  | .fn (.func g) a b => some (.fn (.func g) a b)
  | .yl l => some (.yl l)
  | _ => none

def maxE : List D → Option D
  | [.lit (.int k a), .lit (.int _ b)] => some (.lit (.int k (bif decide (b > a) then b else a)))
  | _ => none

def minE : List D → Option D
  | [.lit (.int k a), .lit (.int _ b)] => some (.lit (.int k (bif decide (b < a) then b else a)))
  | _ => none

def builtinE (P : Program) (h : H) (f : Operand → D) (b : Builtin) (ts : List TypeId) (xs : List Operand) : Option (D × H) :=
  match b, ts, xs with
  | .len, [t], [x] => (lenM P h t (f x)).map (·, h)
  | .cap, [t], [x] => (capE P t (f x)).map (·, h)
  | .append, [t, tx], [x, y] => appendE P h t tx (f x) (f y)
  | .copy, [t, tx], [x, y] => copyE P h t tx (f x) (f y)
  | .max, _, xs => (maxE (xs.map f)).map (·, h)
  | .min, _, xs => (minE (xs.map f)).map (·, h)
  | .unsafeSliceData, _, [x] => (sliceDataE (f x)).map (·, h)
  | .unsafeString, [pt, _], [x, y] => strE P h pt (f x) (f y)
  | .clear, [t], [x] => clearE P h t (f x)
  | _, _, _ => none

def opE (P : Program) (h : H) (f : Operand → D) (op : Op) : Option (D × H) :=
  match op with
  | .move x => some (f x, h)
  | .assign x => some (f x, h)
  | .pick c x y => (match f c with
    | .lit (.bool b) => some (bif b then f x else f y, h)
    | _ => none)
  | .alloc t => (tiOf P t).map fun ti => allocE h t ti
  | .box t x => boxE h t (f x)
  | .build t ps => (buildE P t (ps.toList.map fun p => (p.1, f p.2))).map (·, h)
  | .buildSlice t n ps => buildSliceE P h t n (ps.toList.map fun p => (p.1, f p.2))
  | .load t x => (match tiOf P t with
    | some ti => (loadE h ti (f x)).map (·, h)
    | none => none)
  | .store t x y => (match tiOf P t with
    | some ti => (storeE h ti (f x) (f y)).map (D.un, ·)
    | none => none)
  | .nilCheck x => (nilE (f x)).map (·, h)
  | .binOp op t x y _ => (match binE P op t (f x) (f y) with
    | some d => some (d, h)
    | none => (match ptrEqE P h op t (f x) (f y) with
      | some d => some (d, h)
      | none => (match structEqE P op t (f x) (f y) with
        | some d => some (d, h)
        | none => (mapNilE P op t (f x) (f y)).map (·, h))))
  | .unOp op _ x => (unE op (f x)).map (·, h)
  | .convert src dst x => (match convE P src dst (f x) with
    | some d => some (d, h)
    | none => (convPE P h src dst (f x)).map (·, h))
  | .makeInterface t x => (match tiOf P t with
    | some ti => bif decide (ti.k = .ifc) then none else some (.ifc t (f x), h)
    | none => none)
  | .makeFunc fn first caps => some (.fn fn (first.toList.map f) (caps.toList.map f), h)
  | .makeSlice t l c => makeE P h t (f l) (f c)
  | .slice t x lo hi mx => (sliceE P t (f x) (lo.map f) (hi.map f) (mx.map f)).map (·, h)
  | .fieldAddr t x i => (fieldAddrE P t (f x) i).map (·, h)
  | .field t x i => (fieldE P t (f x) i).map (·, h)
  | .indexAddr t x ix => (indexAddrE P t (f x) (f ix)).map (·, h)
  | .index t x ix => (indexE P t (f x) (f ix)).map (·, h)
  | .extract x i => (match f x with
    | .tup l => (l[i]?).map (·, h)
    | _ => none)
  | .lookup t x k c => (lookupE P h t (f x) (f k) c).map (·, h)
  | .mapUpdate t x k v => (mapUpdateE P h t (f x) (f k) (f v)).map (D.un, ·)
  | .range t x => rangeE P h t (f x)
  | .next x st => bif st then none else nextE h (f x)
  | .entry x => (entryE h (f x)).map (·, h)
  | .makeMap _ r => (match r with
    | none => some (makeMapE h)
    | some _ => none)
  | .call c => (match c.callee with
    | .builtin b => builtinE P h f b c.argTypes.toList c.args.toList
    | _ => none)
  | _ => none

/-- What is asked of an operation's run. -/
def Did (P : Program) (M : Mem) (w : World) (o : Oper) (ρ : Operand → Value) (d : D) (h' : H) : Prop :=
  ∃ v w' M', ((execOp ρ o).run P w = .ok (.value v) w' ∨ ((execOp ρ o).run P w = .ok .skip w' ∧ v = undef)) ∧ RH M' h' w' ∧ R M' d v ∧ Ext M w M' w'

theorem did_val {P : Program} {M : Mem} {w : World} {o : Oper} {ρ : Operand → Value} {d : D} {h : H} (hr : RH M h w) (v : Value) (h1 : (execOp ρ o).run P w = .ok (.value v) w) (h2 : R M d v) : Did P M w o ρ d h :=
  ⟨v, w, M, .inl h1, hr, h2, Ext.refl M w⟩

theorem map_pair {α β : Type} {a : Option α} {b b' : β} {d : α} (h : a.map (·, b) = some (d, b')) : a = some d ∧ b' = b := by
  cases a with
  | none => simp at h
  | some x => simp at h; exact ⟨by rw [h.1], h.2.symm⟩

theorem opt_R {M : Mem} {f : Operand → D} {ρ : Operand → Value} (hf : ∀ x, R M (f x) (ρ x)) (x : Option Operand) : (∀ d, x.map f = some d → ∃ u, x.map ρ = some u ∧ R M d u) ∧ (x.map f = none → x.map ρ = none) := by
  cases x with
  | none => exact ⟨fun d h => by simp at h, fun _ => rfl⟩
  | some y => exact ⟨fun d h => by simp at h; subst h; exact ⟨_, rfl, hf y⟩, fun h => by simp at h⟩

theorem parts_R {M : Mem} {f : Operand → D} {ρ : Operand → Value} (hf : ∀ x, R M (f x) (ρ x)) (ps : Array (Nat × Operand)) : (ps.toList.map fun p => (p.1, f p.2)).length = (ps.map fun p => (p.1, ρ p.2)).size ∧
    ∀ (j : Nat) p q, (ps.toList.map fun p => (p.1, f p.2))[j]? = some p → (ps.map fun p => (p.1, ρ p.2))[j]? = some q → q.1 = p.1 ∧ R M p.2 q.2 := by
  refine ⟨by simp, fun j p q hp hq => ?_⟩
  simp only [List.getElem?_map, Array.getElem?_toList, Option.map_eq_some_iff] at hp
  simp only [Array.getElem?_map, Option.map_eq_some_iff] at hq
  obtain ⟨y, hy, rfl⟩ := hp
  obtain ⟨z, hz, rfl⟩ := hq
  rw [hy] at hz
  cases hz
  exact ⟨rfl, hf _⟩

theorem fns_R {M : Mem} {f : Operand → D} {ρ : Operand → Value} (hf : ∀ x, R M (f x) (ρ x)) (xs : Array Operand) : (xs.map ρ).size = (xs.toList.map f).length ∧ ∀ (i : Nat) d, (xs.toList.map f)[i]? = some d → R M d ((xs.map ρ).getD i undef) := by
  refine ⟨by simp, fun i d h => ?_⟩
  simp only [List.getElem?_map, Array.getElem?_toList, Option.map_eq_some_iff] at h
  obtain ⟨x, hx, rfl⟩ := h
  rw [show (xs.map ρ).getD i undef = ρ x by simp [Array.getD_eq_getD_getElem?, hx]]
  exact hf x

theorem builtin_ok {P : Program} {M : Mem} {h : H} {w : World} (hr : RH M h w) {f : Operand → D} {ρ : Operand → Value} (hf : ∀ x, R M (f x) (ρ x)) {b : Builtin} {ts : List TypeId} {xs : List Operand} {ty : TypeId} {d : D} {h' : H}
    (he : builtinE P h f b ts xs = some (d, h')) : ∃ v w' M', (∀ cs, (builtin b ts.toArray ty cs (xs.toArray.map ρ)).run P w = .ok (.value v) w') ∧ RH M' h' w' ∧ R M' d v ∧ Ext M w M' w' := by
  unfold builtinE at he
  split at he
  · obtain ⟨e1, rfl⟩ := map_pair he
    obtain ⟨q, g1, g2⟩ := lenM_ok (ty := ty) hr e1 (hf _)
    exact ⟨q, w, M, fun _ => by simp only [builtin, Sem.run_bind, List.map_toArray, List.map_cons, List.map_nil, g1, Result.andThen_ok, Sem.run_pure], hr, g2, Ext.refl M w⟩
  · obtain ⟨e1, rfl⟩ := map_pair he
    obtain ⟨q, g1, g2⟩ := cap_ok (w := w) (ty := ty) e1 (hf _)
    exact ⟨q, w, M, fun _ => by simp only [builtin, Sem.run_bind, List.map_toArray, List.map_cons, List.map_nil, g1, Result.andThen_ok, Sem.run_pure], hr, g2, Ext.refl M w⟩
  · obtain ⟨q, w', M', g1, g2, g3, g4⟩ := append_ok (ty := ty) hr he (hf _) (hf _)
    exact ⟨q, w', M', fun _ => by simp only [builtin, Sem.run_bind, List.map_toArray, List.map_cons, List.map_nil, g1, Result.andThen_ok, Sem.run_pure], g2, g3, g4⟩
  · obtain ⟨q, w', g1, g2, g3, g4⟩ := copy_ok (ty := ty) hr he (hf _) (hf _)
    exact ⟨q, w', M, fun _ => by simp only [builtin, Sem.run_bind, List.map_toArray, List.map_cons, List.map_nil, g1, Result.andThen_ok, Sem.run_pure], g2, g3, g4⟩
  · obtain ⟨e1, rfl⟩ := map_pair he
    unfold maxE at e1
    split at e1
    case h_2 => cases e1
    rename_i k a k' b hxs
    cases e1
    obtain ⟨x, y, rfl⟩ : ∃ x y, xs = [x, y] := by
      cases xs with
      | nil => simp at hxs
      | cons x r =>
        cases r with
        | nil => simp at hxs
        | cons y q =>
          cases q with
          | nil => exact ⟨x, y, rfl⟩
          | cons _ _ => simp at hxs
    · simp only [List.map_cons, List.map_nil, List.cons.injEq, and_true] at hxs
      have ex := hf x
      rw [hxs.1] at ex
      have ey := hf y
      rw [hxs.2] at ey
      refine ⟨.int k (if b > a then b else a), w, M, ?_, hr, ?_, Ext.refl M w⟩
      · intro _; simp only [builtin, Sem.run_bind, List.map_toArray, List.map_cons, List.map_nil, ex.litE, ey.litE, run_max_int2, Result.andThen_ok, Sem.run_pure]
      · simp only [cond_eq_ite, decide_eq_true_eq]; exact .lit _ trivial
  · obtain ⟨e1, rfl⟩ := map_pair he
    unfold minE at e1
    split at e1
    case h_2 => cases e1
    rename_i k a k' b hxs
    cases e1
    obtain ⟨x, y, rfl⟩ : ∃ x y, xs = [x, y] := by
      cases xs with
      | nil => simp at hxs
      | cons x r =>
        cases r with
        | nil => simp at hxs
        | cons y q =>
          cases q with
          | nil => exact ⟨x, y, rfl⟩
          | cons _ _ => simp at hxs
    · simp only [List.map_cons, List.map_nil, List.cons.injEq, and_true] at hxs
      have ex := hf x
      rw [hxs.1] at ex
      have ey := hf y
      rw [hxs.2] at ey
      refine ⟨.int k (if b < a then b else a), w, M, ?_, hr, ?_, Ext.refl M w⟩
      · intro _; simp only [builtin, Sem.run_bind, List.map_toArray, List.map_cons, List.map_nil, ex.litE, ey.litE, run_min_int2, Result.andThen_ok, Sem.run_pure]
      · simp only [cond_eq_ite, decide_eq_true_eq]; exact .lit _ trivial
  · obtain ⟨e1, rfl⟩ := map_pair he
    obtain ⟨q, g1, g2⟩ := sliceData_ok (P := P) (w := w) (ts := ts.toArray) (ty := ty) e1 (hf _)
    exact ⟨q, w, M, fun _ => by simp only [builtin, Sem.run_bind, List.map_toArray, List.map_cons, List.map_nil, g1, Result.andThen_ok, Sem.run_pure], hr, g2, Ext.refl M w⟩
  · rename_i pt it x y
    obtain ⟨q, w', g1, g2, g3, g4⟩ := str_ok (it := it) (ty := ty) hr he (hf x) (hf y)
    exact ⟨q, w', M, fun _ => by simp only [builtin, Sem.run_bind, List.map_toArray, List.map_cons, List.map_nil, g1, Result.andThen_ok, Sem.run_pure], g2, g3, g4⟩
  · obtain ⟨q, w', g1, g2, g3, g4⟩ := clear_ok (ty := ty) hr he (hf _)
    exact ⟨q, w', M, fun _ => by simp only [builtin, Sem.run_bind, List.map_toArray, List.map_cons, List.map_nil, g1, Result.andThen_ok, Sem.run_pure], g2, g3, g4⟩
  · cases he

theorem opE_ok {P : Program} {M : Mem} {h : H} {w : World} (hr : RH M h w) {f : Operand → D} {ρ : Operand → Value} (hf : ∀ x, R M (f x) (ρ x)) {o : Oper} {op : Op} (hop : o.op = op) {d : D} {h' : H}
    (he : opE P h f op = some (d, h')) : Did P M w o ρ d h' := by
  cases op <;> simp only [opE, reduceCtorEq] at he
  case move x => cases he; exact did_val hr _ (by simp only [execOp, hop, Sem.run_pure]) (hf x)
  case assign x => cases he; exact did_val hr _ (by simp only [execOp, hop, Sem.run_pure]) (hf x)
  case pick c x y =>
    split at he
    case h_2 => cases he
    rename_i b hb
    cases he
    have hc := hf c
    rw [hb] at hc
    refine did_val hr (if b then ρ x else ρ y) (by simp only [execOp, hop, hc.litE, asBool, Sem.run_bind, Sem.run_pure, Result.andThen_ok]) ?_
    cases b
    · exact hf y
    · exact hf x
  case alloc t =>
    simp only [Option.map_eq_some_iff] at he
    obtain ⟨ti, hti, he⟩ := he
    obtain ⟨it, dt, zt, ht⟩ := tiOf_spec hti
    obtain ⟨u, w', M', g1, g2, g3, g4⟩ := alloc_ok ht hr
    rw [he] at g2 g3
    exact ⟨u, w', M', .inl (by simp only [execOp, hop, Sem.run_bind, g1, Result.andThen_ok, Sem.run_pure]), g2, g3, g4⟩
  case box t x =>
    obtain ⟨u, w', M', g1, g2, g3, g4⟩ := box_ok (P := P) hr (hf x) he
    exact ⟨u, w', M', .inl (by simp only [execOp, hop, Sem.run_bind, g1, Result.andThen_ok, Sem.run_pure]), g2, g3, g4⟩
  case build t ps =>
    obtain ⟨e1, rfl⟩ := map_pair he
    obtain ⟨g1, g2⟩ := parts_R hf ps
    obtain ⟨u, h1, h2⟩ := build_ok (w := w) e1 g1 g2
    exact did_val hr u (by simp only [execOp, hop, Sem.run_bind, h1, Result.andThen_ok, Sem.run_pure]) h2
  case buildSlice t n ps =>
    obtain ⟨g1, g2⟩ := parts_R hf ps
    obtain ⟨u, w', M', h1, h2⟩ := buildSlice_ok (P := P) hr he g1 g2
    exact ⟨u, w', M', .inl (by simp only [execOp, hop, Sem.run_bind, h1, Result.andThen_ok, Sem.run_pure]), h2⟩
  case load t x =>
    split at he
    case h_2 => cases he
    rename_i ti hti
    obtain ⟨it, dt, zt, ht⟩ := tiOf_spec hti
    obtain ⟨e1, rfl⟩ := map_pair he
    obtain ⟨u, h1, h2⟩ := load_ok ht hr e1 (hf x)
    exact did_val hr u (by simp only [execOp, hop, Sem.run_bind, h1, Result.andThen_ok, Sem.run_pure]) h2
  case store t x y =>
    split at he
    case h_2 => cases he
    rename_i ti hti
    obtain ⟨it, dt, zt, ht⟩ := tiOf_spec hti
    simp only [Option.map_eq_some_iff, Prod.mk.injEq] at he
    obtain ⟨h2, hs, rfl, rfl⟩ := he
    obtain ⟨w', h1, h2, h3⟩ := store_ok ht hr hs (hf x) (hf y)
    exact ⟨undef, w', M, .inr ⟨by simp only [execOp, hop, Sem.run_bind, h1, Result.andThen_ok, Sem.run_pure], rfl⟩, h2, .un, h3⟩
  case nilCheck x =>
    obtain ⟨e1, rfl⟩ := map_pair he
    have hx := hf x
    unfold nilE at e1
    split at e1
    · rename_i l o hd
      cases e1
      rw [hd] at hx
      generalize hv : ρ x = v at hx
      cases hx with
      | pt _ _ b ha => exact did_val hr _ (by simp only [execOp, hop, hv, Sem.run_pure]) (.pt l o b ha)
    · rename_i g a b hd
      cases e1
      rw [hd] at hx
      generalize hv : ρ x = v at hx
      cases hx with
      | fn _ _ _ v1 v2 e1 e2 e3 e4 => exact did_val hr _ (by simp only [execOp, hop, hv, Sem.run_pure]) (.fn _ _ _ v1 v2 e1 e2 e3 e4)
    · rename_i l hd
      cases e1
      rw [hd] at hx
      generalize hv : ρ x = v at hx
      cases hx with
      | yl _ b ha => exact did_val hr _ (by simp only [execOp, hop, hv, Sem.run_pure]) (.yl l b ha)
    · cases e1
  case binOp op t x y t' =>
    split at he
    · rename_i d1 e1
      cases he
      obtain ⟨q, h1, h2⟩ := bin_ok (w := w) e1 (hf x) (hf y) x y
      exact did_val hr q (by unfold execOp; simp only [hop]; rw [Sem.run_bind, h1]; rfl) h2
    split at he
    · rename_i d1 e1
      cases he
      obtain ⟨q, h1, h2⟩ := ptrEq_ok hr e1 (hf x) (hf y) x y
      exact did_val hr q (by unfold execOp; simp only [hop]; rw [Sem.run_bind, h1]; rfl) h2
    split at he
    · rename_i d1 e1
      cases he
      obtain ⟨q, h1, h2⟩ := structEq_ok (w := w) e1 (hf x) (hf y) x y
      exact did_val hr q (by unfold execOp; simp only [hop]; rw [Sem.run_bind, h1]; rfl) h2
    obtain ⟨e1, rfl⟩ := map_pair he
    obtain ⟨q, h1, h2⟩ := mapNil_ok (w := w) e1 (hf x) (hf y) x y
    exact did_val hr q (by unfold execOp; simp only [hop]; rw [Sem.run_bind, h1]; rfl) h2
  case lookup t x k c =>
    obtain ⟨e1, rfl⟩ := map_pair he
    obtain ⟨q, h1, h2⟩ := lookup_ok hr e1 (hf x) (hf k)
    exact did_val hr q (by simp only [execOp, hop, Sem.run_bind, h1, Result.andThen_ok, Sem.run_pure]) h2
  case mapUpdate t x k v =>
    simp only [Option.map_eq_some_iff, Prod.mk.injEq] at he
    obtain ⟨h2, hs, rfl, rfl⟩ := he
    obtain ⟨w', h1, h2, h3⟩ := mapUpdate_ok hr hs (hf x) (hf k) (hf v)
    exact ⟨undef, w', M, .inr ⟨by simp only [execOp, hop, Sem.run_bind, h1, Result.andThen_ok, Sem.run_pure], rfl⟩, h2, .un, h3⟩
  case range t x =>
    obtain ⟨u, w', M', h1, h2⟩ := range_ok hr he (hf x)
    exact ⟨u, w', M', .inl (by simp only [execOp, hop, Sem.run_bind, h1, Result.andThen_ok, Sem.run_pure]), h2⟩
  case next x st =>
    cases st with
    | true => cases he
    | false =>
      obtain ⟨u, w', h1, h2, h3, h4⟩ := next_ok (P := P) hr he (hf x) o.type
      exact ⟨u, w', M, .inl (by simp only [execOp, hop, Sem.run_bind, h1, Result.andThen_ok, Sem.run_pure]), h2, h3, h4⟩
  case entry x =>
    obtain ⟨e1, rfl⟩ := map_pair he
    obtain ⟨q, h1, h2⟩ := entry_ok (P := P) hr e1 (hf x)
    exact did_val hr q (by simp only [execOp, hop, Sem.run_bind, h1, Result.andThen_ok, Sem.run_pure]) h2
  case makeMap t r =>
    split at he
    case h_2 => cases he
    cases he
    obtain ⟨u, w', M', h1, h2⟩ := makeMap_ok (P := P) hr t
    exact ⟨u, w', M', .inl (by simp only [execOp, hop, Option.map_none, Sem.run_bind, h1, Result.andThen_ok, Sem.run_pure]), h2⟩
  case unOp op t x =>
    obtain ⟨e1, rfl⟩ := map_pair he
    obtain ⟨q, h1, h2⟩ := un_ok (P := P) (w := w) e1 (hf x)
    exact did_val hr q (by simp only [execOp, hop, Sem.run_bind, h1, Result.andThen_ok, Sem.run_pure]) h2
  case convert src dst x =>
    split at he
    · rename_i d1 e1
      cases he
      obtain ⟨q, h1, h2⟩ := conv_ok (w := w) e1 (hf x)
      exact did_val hr q (by simp only [execOp, hop, Sem.run_bind, h1, Result.andThen_ok, Sem.run_pure]) h2
    obtain ⟨e1, rfl⟩ := map_pair he
    obtain ⟨q, h1, h2⟩ := convP_ok hr e1 (hf x)
    exact did_val hr q (by simp only [execOp, hop, Sem.run_bind, h1, Result.andThen_ok, Sem.run_pure]) h2
  case makeInterface t x =>
    split at he
    case h_2 => cases he
    rename_i ti hti
    obtain ⟨it, dt, zt, ht⟩ := tiOf_spec hti
    rw [cond_eq_ite] at he
    split at he
    · cases he
    · rename_i hi
      simp only [decide_eq_true_eq] at hi
      cases he
      refine did_val hr _ ?_ (.ifc t _ _ (hf x))
      have : (Instr.makeInterface t (ρ x)).run P w = .ok (.iface t (ρ x)) w := by
        unfold Instr.makeInterface
        simp only [Sem.run_bind, run_underlying ht.und, Result.andThen_ok]
        have hk' := ht.k
        cases dt <;> first | rfl | exact absurd hk' hi
      simp only [execOp, hop, Sem.run_bind, this, Result.andThen_ok, Sem.run_pure]
  case makeFunc fn first caps =>
    cases he
    obtain ⟨g1, g2⟩ := fns_R hf first
    obtain ⟨g3, g4⟩ := fns_R hf caps
    exact did_val hr _ (by simp only [execOp, hop, Instr.makeFunc, Sem.run_bind, Sem.run_pure, Result.andThen_ok]) (.fn fn _ _ _ _ g1 g3 g2 g4)
  case makeSlice t l c =>
    obtain ⟨u, w', M', h1, h2⟩ := make_ok hr he (hf l) (hf c)
    exact ⟨u, w', M', .inl (by simp only [execOp, hop, Sem.run_bind, h1, Result.andThen_ok, Sem.run_pure]), h2⟩
  case slice t x lo hi mx =>
    obtain ⟨e1, rfl⟩ := map_pair he
    obtain ⟨l1, l2⟩ := opt_R hf lo
    obtain ⟨h1, h2⟩ := opt_R hf hi
    obtain ⟨m1, m2⟩ := opt_R hf mx
    obtain ⟨q, g1, g2⟩ := slice_ok (w := w) e1 (hf x) l1 l2 h1 h2 m1 m2
    exact did_val hr q (by simp only [execOp, hop, Sem.run_bind, g1, Result.andThen_ok, Sem.run_pure]) g2
  case fieldAddr t x i =>
    obtain ⟨e1, rfl⟩ := map_pair he
    obtain ⟨q, h1, h2⟩ := fieldAddr_ok (w := w) e1 (hf x)
    exact did_val hr q (by simp only [execOp, hop, Sem.run_bind, h1, Result.andThen_ok, Sem.run_pure]) h2
  case field t x i =>
    obtain ⟨e1, rfl⟩ := map_pair he
    obtain ⟨q, h1, h2⟩ := field_ok (w := w) e1 (hf x)
    exact did_val hr q (by simp only [execOp, hop, Sem.run_bind, h1, Result.andThen_ok, Sem.run_pure]) h2
  case indexAddr t x ix =>
    obtain ⟨e1, rfl⟩ := map_pair he
    obtain ⟨q, h1, h2⟩ := indexAddr_ok (w := w) e1 (hf x) (hf ix)
    exact did_val hr q (by simp only [execOp, hop, Sem.run_bind, h1, Result.andThen_ok, Sem.run_pure]) h2
  case index t x ix =>
    obtain ⟨e1, rfl⟩ := map_pair he
    obtain ⟨q, h1, h2⟩ := index_ok (w := w) e1 (hf x) (hf ix)
    exact did_val hr q (by simp only [execOp, hop, Sem.run_bind, h1, Result.andThen_ok, Sem.run_pure]) h2
  case extract x i =>
    split at he
    case h_2 => cases he
    rename_i l hl
    obtain ⟨e1, rfl⟩ := map_pair he
    have hx := hf x
    rw [hl] at hx
    generalize hv : ρ x = v at hx
    cases hx with
    | tup _ vs hs hx =>
    refine did_val hr (vs.getD i undef) ?_ (hx i d e1)
    have hi : i < vs.size := by rw [hs]; exact (List.getElem?_eq_some_iff.1 e1).1
    simp [execOp, hop, hv, Instr.extract, hi, Array.getD_eq_getD_getElem?]
  case call c =>
    split at he
    case h_2 => cases he
    rename_i b hc
    obtain ⟨v, w', M', g1, g2⟩ := builtin_ok (ty := o.type) hr hf he
    refine ⟨v, w', M', .inl ?_, g2⟩
    simp only [Array.toArray_toList] at g1
    simp only [execOp, hop, resolve, hc, invoke, Sem.run_bind, Sem.run_pure, Result.andThen_ok, g1]

theorem mapL_congr {f g : Operand → D} (xs : List Operand) (h : ∀ x ∈ xs, f x = g x) : xs.map f = xs.map g := List.map_congr_left h
theorem mapO_congr {f g : Operand → D} (x : Option Operand) (h : ∀ y, x = some y → f y = g y) : x.map f = x.map g := by
  cases x with
  | none => rfl
  | some y => simp [h y rfl]
theorem mapP_congr {f g : Operand → D} (xs : List (Nat × Operand)) (h : ∀ p ∈ xs, f p.2 = g p.2) : (xs.map fun p => (p.1, f p.2)) = xs.map fun p => (p.1, g p.2) :=
  List.map_congr_left fun p hp => by rw [h p hp]

theorem builtinE_congr {P : Program} {h : H} {f g : Operand → D} {b : Builtin} {ts : List TypeId} {xs : List Operand} (he : ∀ x ∈ xs, f x = g x) : builtinE P h f b ts xs = builtinE P h g b ts xs := by
  unfold builtinE
  split
  · rw [he _ (by simp)]
  · rw [he _ (by simp)]
  · rename_i x y
    rw [he x (by simp), he y (by simp)]
  · rename_i x y
    rw [he x (by simp), he y (by simp)]
  · rw [mapL_congr _ he]
  · rw [mapL_congr _ he]
  · rw [he _ (by simp)]
  · rename_i x y
    rw [he x (by simp), he y (by simp)]
  · rw [he _ (by simp)]
  · rfl

/-- An operation looks at its operands alone. -/
theorem opE_congr {P : Program} {h : H} {f g : Operand → D} {op : Op} (he : ∀ x ∈ op.operands, f x = g x) : opE P h f op = opE P h g op := by
  cases op <;> simp only [opE]
  case move x => rw [he x (by simp [Op.operands])]
  case assign x => rw [he x (by simp [Op.operands])]
  case pick c x y => rw [he c (by simp [Op.operands]), he x (by simp [Op.operands]), he y (by simp [Op.operands])]
  case box t x => rw [he x (by simp [Op.operands])]
  case build t ps => rw [mapP_congr _ fun p hp => he p.2 (by simp only [Op.operands, List.mem_toArray, List.mem_map]; exact ⟨p, hp, rfl⟩)]
  case buildSlice t n ps => rw [mapP_congr _ fun p hp => he p.2 (by simp only [Op.operands, List.mem_toArray, List.mem_map]; exact ⟨p, hp, rfl⟩)]
  case load t x => rw [he x (by simp [Op.operands])]
  case store t x y => rw [he x (by simp [Op.operands]), he y (by simp [Op.operands])]
  case nilCheck x => rw [he x (by simp [Op.operands])]
  case binOp op t x y _ => rw [he x (by simp [Op.operands]), he y (by simp [Op.operands])]
  case unOp op _ x => rw [he x (by simp [Op.operands])]
  case convert src dst x => rw [he x (by simp [Op.operands])]
  case makeInterface t x => rw [he x (by simp [Op.operands])]
  case makeFunc fn first caps => rw [mapL_congr _ fun x hx => he x (by simp only [Op.operands, Array.mem_append]; exact .inl (Array.mem_toList_iff.1 hx)), mapL_congr _ fun x hx => he x (by simp only [Op.operands, Array.mem_append]; exact .inr (Array.mem_toList_iff.1 hx))]
  case makeSlice t l c => rw [he l (by simp [Op.operands]), he c (by simp [Op.operands])]
  case range t x => rw [he x (by simp [Op.operands])]
  case next x st => rw [he x (by simp [Op.operands])]
  case entry x => rw [he x (by simp [Op.operands])]
  case lookup t x k c => rw [he x (by simp [Op.operands]), he k (by simp [Op.operands])]
  case mapUpdate t x k v => rw [he x (by simp [Op.operands]), he k (by simp [Op.operands]), he v (by simp [Op.operands])]
  case slice t x lo hi mx => rw [he x (by simp [Op.operands]), mapO_congr lo fun y hy => he y (by subst hy; simp [Op.operands]), mapO_congr hi fun y hy => he y (by subst hy; simp [Op.operands]), mapO_congr mx fun y hy => he y (by subst hy; simp [Op.operands])]
  case fieldAddr t x i => rw [he x (by simp [Op.operands])]
  case field t x i => rw [he x (by simp [Op.operands])]
  case indexAddr t x ix => rw [he x (by simp [Op.operands]), he ix (by simp [Op.operands])]
  case index t x ix => rw [he x (by simp [Op.operands]), he ix (by simp [Op.operands])]
  case extract x i => rw [he x (by simp [Op.operands])]
  case call c =>
    split
    · rename_i b hc
      exact builtinE_congr fun x hx => he x (by simp only [Op.operands, Call.operands, Array.mem_append]; exact .inr (Array.mem_toList_iff.1 hx))
    · rfl
end Go.Ev
