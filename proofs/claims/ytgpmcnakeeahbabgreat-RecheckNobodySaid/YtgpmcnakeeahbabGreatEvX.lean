/-
  Pointers: whether they are the same; as unsafe pointers; a text out of bytes.
-/
import Derived.Test.YtgpmcnakeeahbabGreatEvE
import Derived.Lib.Builder
import Derived.Lib.UnsafeStr
import Derived.LaidEqlPtr
namespace Go.Ev
open Go.Aw (litOk TI tiOf TIs tiOf_spec addr_add eqGuard_ok)

theorem eql_equal {P : Program} {t : TypeId} {v u : Value} {b : Bool} {w : World} (h1 : binOp .eql t v u = (do pure (.bool (← Op.equal t v u)) : Sem Value)) (h : (binOp .eql t v u).run P w = .ok (.bool b) w) : (Op.equal t v u).run P w = .ok b w := by
  rw [h1] at h
  simp only [Sem.run_bind] at h
  cases hr : (Op.equal t v u).run P w with
  | ok x w' =>
    rw [hr] at h
    simp only [Result.andThen_ok, Sem.run_pure] at h
    injection h with e1 e2
    injection e1 with e1
    rw [e1, e2]
  | halt x w' => rw [hr] at h; simp [Result.andThen] at h

def ptrEqE (P : Program) (h : H) (op : BinOp) (t : TypeId) (x y : D) : Option D :=
  match x, y with
  | .pt l o, .pt l' o' => (match P.underlying t with
    | some (.pointer e) => (match P.info? e with
      | some j => (match h.hp.get l, h.hp.get l' with
        | some (.cells _ _ _), some (.cells _ _ _) => bif Nat.beq l l' && Nat.beq o o' then eqRes op true else bif Nat.beq j.size 0 then none else eqRes op false
        | _, _ => none)
      | none => none)
    | _ => none)
  | _, _ => none

theorem ptrEq_ok {P : Program} {M : Mem} {h : H} {w : World} (hr : RH M h w) {op : BinOp} {t : TypeId} {x y p : D} (he : ptrEqE P h op t x y = some p) {v u : Value} (hv : R M x v) (hu : R M y u) (ox oy : Operand) :
    ∃ q, (do eqGuard op t ox oy v u; binOp op t v u : Sem Value).run P w = .ok q w ∧ R M p q := by
  unfold ptrEqE at he
  split at he
  case h_2 => cases he
  rename_i l o l' o'
  split at he
  case h_2 => cases he
  rename_i e hund
  split at he
  case h_2 => cases he
  rename_i j hj
  split at he
  case h_2 => cases he
  rename_i ty op1 ds ty' op2 ds' hl hl'
  cases hv with
  | pt _ _ b ha =>
  cases hu with
  | pt _ _ b' ha' =>
  obtain ⟨c, g1, cur, g2, _⟩ := hr.look hl ha
  obtain ⟨c', g1', cur', g2', _⟩ := hr.look hl' ha'
  rw [Sem.run_bind, eqGuard_ok op t ox oy _ _ (by simp) (by simp), Result.andThen_ok]
  have fin : ∀ bb : Bool, (binOp .eql t (.pointer (some ⟨b, o, none⟩)) (.pointer (some ⟨b', o', none⟩))).run P w = .ok (.bool bb) w → eqRes op bb = some p →
      ∃ q, (binOp op t (.pointer (some ⟨b, o, none⟩)) (.pointer (some ⟨b', o', none⟩))).run P w = .ok q w ∧ R M p q := by
    intro bb h1 h2
    have h3 := eql_equal rfl h1
    unfold eqRes at h2
    cases op <;> simp only [Option.some.injEq, reduceCtorEq] at h2 <;> subst h2
    · exact ⟨_, h1, .lit _ trivial⟩
    · refine ⟨.bool (!bb), ?_, .lit _ trivial⟩
      have : binOp .neq t (.pointer (some ⟨b, o, none⟩)) (.pointer (some ⟨b', o', none⟩)) = (do pure (.bool (!(← Op.equal t (.pointer (some ⟨b, o, none⟩)) (.pointer (some ⟨b', o', none⟩))))) : Sem Value) := rfl
      rw [this]
      simp [h3]
  rw [cond_eq_ite] at he
  split at he
  · rename_i hc
    simp only [Bool.and_eq_true] at hc
    have q1 := Nat.eq_of_beq_eq_true hc.1
    have q2 := Nat.eq_of_beq_eq_true hc.2
    subst q1 q2
    have : b = b' := ha'.2.1 _ _ g1
    subst this
    exact fin true (run_eql_ptr_same w _ hund hj) he
  · rename_i hc
    rw [cond_eq_ite] at he
    split at he
    · cases he
    · rename_i hz
      have hz : j.size ≠ 0 := fun q => hz (by rw [q]; rfl)
      have hne : (⟨b, o, none⟩ : Addr) ≠ ⟨b', o', none⟩ := by
        intro q
        injection q with q1 q2
        subst q1 q2
        have := hr.inv.inj l l' _ _ _ g1 g1'
        subst this
        exact hc (by simp)
      exact fin false (run_eql_ptr_other w hund hj hz hne g2 g2') he

/-! ### Conversions to and from unsafe.Pointer -/
def convPE (P : Program) (h : H) (src dst : TypeId) (x : D) : Option D :=
  match x with
  | .pt l o => (match h.hp.get l with
    | some (.cells ty none ds) => bif Nat.blt o ds.length then (match P.underlying src, P.underlying dst with
      | some (.pointer t), some .unsafePointer => (match P.info? t with
        | some j => bif Nat.beq j.size 0 then none else some x
        | none => none)
      | some .unsafePointer, some (.pointer u) => (match P.info? u with
        | some _ => bif liesAt P P.depth ty (ds.length / P.cellsOf ty) o u 1 then some x else none
        | none => none)
      | _, _ => none) else none
    | _ => none)
  | _ => none

theorem convP_ok {P : Program} {M : Mem} {h : H} {w : World} (hr : RH M h w) {src dst : TypeId} {x y : D} (he : convPE P h src dst x = some y) {v : Value} (hv : R M x v) : ∃ q, (convert src dst v).run P w = .ok q w ∧ R M y q := by
  unfold convPE at he
  split at he
  case h_2 => cases he
  rename_i l o
  split at he
  case h_2 => cases he
  rename_i ty ds hl
  obtain ⟨hlt, he⟩ := bif_some he
  simp only [Nat.blt_eq] at hlt
  cases hv with
  | pt _ _ b ha =>
  obtain ⟨c, g1, cur, g2, g3, g4⟩ := hr.look hl ha
  have g3 : cur.size = ds.length := g3
  have hsh : w.shape? b = some (ty, ds.length) := by simp [World.shape?, g2, g3]
  split at he
  · rename_i t hs hd
    split at he
    case h_2 => cases he
    rename_i j hj
    rw [cond_eq_ite] at he
    split at he
    · cases he
    · rename_i hz
      have hz : j.size ≠ 0 := fun q => hz (by rw [q]; rfl)
      cases he
      exact ⟨_, Lib.run_to_unsafe (w := w) ⟨b, o, none⟩ hs hd hj hz hsh hlt, .pt l o b ha⟩
  · rename_i u hs hd
    split at he
    case h_2 => cases he
    rename_i j hj
    obtain ⟨hlies, he⟩ := bif_some he
    cases he
    exact ⟨_, Lib.run_from_unsafe (w := w) ⟨b, o, none⟩ hs hd hj hsh hlies, .pt l o b ha⟩
  · cases he

/-! ### unsafe.SliceData, unsafe.String -/
theorem RH.drop {M : Mem} {h : H} {w w' : World} (hr : RH M h w) {l n c : Nat} (hl : M.μ l = .blk n c) (ho : w'.os = w.os) (htp : w'.tape = w.tape) (hou : w'.output = w.output)
    (hsz : w'.heap.size = w.heap.size) (hk : ∀ b, b ≠ n → w'.heap[b]? = w.heap[b]?) : RH M { h with hp := h.hp.del l } w' ∧ Ext M w M w' := by
  refine ⟨⟨⟨hr.inv.inj, fun l b c e => by rw [hsz]; exact hr.inv.lt l b c e, hr.inv.nx, fun b q e => by
    obtain ⟨ty, fr, e2⟩ := hr.inv.fz b q e
    exact ⟨ty, fr, (hk b (fun x => hr.inv.sep b q e l c (x ▸ hl))).trans e2⟩, hr.inv.sep⟩, fun m b e => ?_, hr.nx⟩, ⟨ho, htp, hou, Nat.le_of_eq hsz.symm, fun b hb hn => hk b (fun e => hn l c (e ▸ hl)), fun l b c e => .inl ⟨l, c, e⟩, Nat.le_refl _, fun _ _ => .inl rfl, fun _ _ h => h, fun _ _ h => .inl h, fun _ _ h => h⟩⟩
  simp only [T.get_del] at e
  by_cases hm : l = m
  · rw [if_pos hm] at e; cases e
  · rw [if_neg hm] at e
    exact (hr.hp m b e).mono (.refl M) (fun n' c' h1 => hk n' (fun q => hm (hr.inv.inj l m n c c' hl (q ▸ h1))))


def sliceDataE : D → Option D
  | .lit (.slice none 0 0) => some (.lit (.pointer none))
  | .sl l off _ (some (k + 1)) => some (.pt l off)
  | .sl l off (n + 1) none => some (.pt l off)
  | _ => none

theorem sliceData_ok {P : Program} {M : Mem} {w : World} {ts : Array TypeId} {ty : TypeId} {x y : D} (he : sliceDataE x = some y) {v : Value} (hv : R M x v) : ∃ q, (Builtin.unsafeSliceData_ ts ty #[v]).run P w = .ok q w ∧ R M y q := by
  unfold sliceDataE at he
  split at he
  · cases he
    cases hv
    exact ⟨_, Lib.run_unsafeSliceData_nil w ts ty 0 0, .lit _ trivial⟩
  · cases he
    cases hv with
    | sl _ _ _ _ b k ha hk h0 hn hm =>
    have := hk _ rfl
    exact ⟨_, Lib.run_unsafeSliceData_row w ts ty _ _ _ (by omega), .pt _ _ b ha⟩
  · cases he
    cases hv with
    | sl _ _ _ _ b k ha hk h0 hn hm =>
    exact ⟨_, Lib.run_unsafeSliceData_row w ts ty _ _ _ (by omega), .pt _ _ b ha⟩
  · cases he

def bytesE : List D → Option (List UInt8)
  | [] => some []
  | .lit (.int .u8 (.ofNat n)) :: r => bif Nat.blt n 256 then (bytesE r).map (n.toUInt8 :: ·) else none
  | _ :: _ => none

theorem bytesE_ok {M : Mem} : ∀ (ds : List D) (l : List UInt8), bytesE ds = some l → l.length = ds.length ∧ ∀ (j : Nat) x, l[j]? = some x → ∃ d, ds[j]? = some d ∧ ∀ v, R M d v → v = .int .u8 x.toNat
  | [], l, h => by
    simp only [bytesE, Option.some.injEq] at h
    subst h
    simp
  | d :: r, l, h => by
    unfold bytesE at h
    split at h
    · rename_i heq; cases heq
    · rename_i n r' heq
      cases heq
      obtain ⟨hn, hb⟩ := bif_some h
      simp only [Nat.blt_eq] at hn
      simp only [Option.map_eq_some_iff] at hb
      obtain ⟨l', hb, rfl⟩ := hb
      obtain ⟨h1, h2⟩ := bytesE_ok (M := M) r l' hb
      refine ⟨by simp [h1], fun j x hj => ?_⟩
      cases j with
      | zero =>
        simp only [List.getElem?_cons_zero, Option.some.injEq] at hj
        subst hj
        refine ⟨_, rfl, fun v hv => ?_⟩
        cases hv
        have : n.toUInt8.toNat = n := by simp [Nat.toUInt8, UInt8.toNat_ofNat']; omega
        rw [this]
        rfl
      | succ j => exact h2 j x (by simpa using hj)
    · cases h

def strE (P : Program) (h : H) (pt : TypeId) (x y : D) : Option (D × H) :=
  match y with
  | .lit (.int .i64 (.ofNat 0)) => (match x with
    | .lit (.pointer none) => some (.lit (.string ⟨#[]⟩), h)
    | .pt _ _ => some (.lit (.string ⟨#[]⟩), h)
    | _ => none)
  | .lit (.int .i64 (.ofNat (n + 1))) => (match x with
    | .pt l 0 => (match h.hp.get l with
      | some (.cells ty _ ds) => (match P.underlying pt with
        | some (.pointer e) => bif Nat.beq ty e && (Nat.beq (P.cellsOf e) 1 && (Nat.ble (n + 1) ds.length && Nat.ble (n + 1) 9223372036854775807)) then
            (match bytesE (ds.take (n + 1)) with
            | some l' => some (.lit (.string ⟨l'.toArray⟩), { h with hp := h.hp.del l })
            | none => none) else none
        | _ => none)
      | _ => none)
    | _ => none)
  | _ => none
theorem freeze_other (w : World) (b n m : Nat) (hm : m ≠ b) : (w.freeze ⟨b, 0, none⟩ n).heap[m]? = w.heap[m]? := by
  unfold World.freeze
  split
  · rfl
  · simp only [Array.getElem?_modify]
    rw [if_neg (fun q => hm q.symm)]

theorem str_ok {P : Program} {M : Mem} {h h' : H} {w : World} (hr : RH M h w) {pt it ty : TypeId} {x y p : D} (he : strE P h pt x y = some (p, h')) {v u : Value} (hv : R M x v) (hu : R M y u) :
    ∃ q w', (Builtin.unsafeString_ #[pt, it] ty #[v, u]).run P w = .ok q w' ∧ RH M h' w' ∧ R M p q ∧ Ext M w M w' := by
  unfold strE at he
  split at he
  · cases hu
    split at he
    · cases he
      cases hv
      exact ⟨_, w, Lib.run_unsafeString_none w pt it ty none, hr, .lit _ (Nat.zero_le _), Ext.refl M w⟩
    · cases he
      cases hv
      exact ⟨_, w, Lib.run_unsafeString_none w pt it ty _, hr, .lit _ (Nat.zero_le _), Ext.refl M w⟩
    · cases he
  · rename_i n
    cases hu
    split at he
    case h_2 => cases he
    rename_i l
    split at he
    case h_2 => cases he
    rename_i ty' op ds hl
    split at he
    case h_2 => cases he
    rename_i e hund
    replace he := bif_some he
    obtain ⟨hc, he⟩ := he
    simp only [Bool.and_eq_true, Nat.ble_eq] at hc
    obtain ⟨c1, c2, c3, c4⟩ := hc
    have c1 : ty' = e := Nat.eq_of_beq_eq_true c1
    have c2 : P.cellsOf e = 1 := Nat.eq_of_beq_eq_true c2
    subst c1
    split at he
    case h_2 => cases he
    rename_i l' hbs
    cases he
    cases hv with
    | pt _ _ b ha =>
    obtain ⟨c, g1, cur, g2, g3, g4⟩ := hr.look hl ha
    have hle : ds.length ≤ cur.size := by
      cases op with
      | none => simp only at g3; omega
      | some q => exact g3.1
    obtain ⟨k1, k2⟩ := bytesE_ok (M := M) _ _ hbs
    have hlen : l'.length = n + 1 := by rw [k1, List.length_take]; omega
    have hsh : w.shape? b = some (ty', cur.size) := by simp [World.shape?, g2]
    have hrun := Lib.run_unsafeString_row w pt it ty ty' hund c2 b cur.size hsh l' (by intro q; rw [q] at hlen; simp at hlen) (by omega) (by omega) (fun j x hj => by
      obtain ⟨d, hd, hval⟩ := k2 j x hj
      have hlt : j < n + 1 := by rw [← hlen]; exact (List.getElem?_eq_some_iff.1 hj).1
      rw [List.getElem?_take_of_lt hlt] at hd
      have := hval _ (g4 j d hd).2
      rw [addr_add, Nat.zero_add]
      have hjc : j < cur.size := by omega
      simp only [World.cell?, g2]
      rw [← this]
      simp [Array.getD, hjc])
    rw [hlen] at hrun
    obtain ⟨y1, y2⟩ := hr.drop (w' := w.freeze ⟨b, 0, none⟩ (n + 1)) g1 rfl rfl rfl (by simp [World.freeze]) (fun m hm => freeze_other w b (n + 1) m hm)
    refine ⟨_, _, hrun, y1, .lit _ ?_, y2⟩
    show (ByteArray.mk l'.toArray).size ≤ maxLen
    simp only [ByteArray.size, List.size_toArray, hlen, maxLen]
    exact c4
  · cases he
end Go.Ev
