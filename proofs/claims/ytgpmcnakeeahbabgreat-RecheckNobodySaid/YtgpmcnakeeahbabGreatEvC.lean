/-
  Slices: literals, make, append, copy.
-/
import Derived.Test.YtgpmcnakeeahbabGreatEvB
import Derived.Deep.AppendSrc
namespace Go.Ev
open Go.Aw (litOk Z TK TI kOf isAggV tiOf TIs tiOf_spec WF run_isAgg addr_add toArray_getD getD_toArray_append3 get_append3 splice_get halloc_old halloc_new getD_list und_sl und_str)

/-! ### Zeros -/
def zerosE (ti : TI) : Nat → List D
  | 0 => []
  | n + 1 => ti.z.map zD ++ zerosE ti n

theorem zerosE_length (ti : TI) (hl : ti.z.length = ti.size) : ∀ n, (zerosE ti n).length = n * ti.size
  | 0 => by simp [zerosE]
  | n + 1 => by simp [zerosE, zerosE_length ti hl n, hl, Nat.add_mul, Nat.add_comm]

theorem zerosE_get (ti : TI) (hl : ti.z.length = ti.size) : ∀ (n i : Nat) (e : D), (zerosE ti n)[i]? = some e → ∃ z, ti.z[i % ti.size]? = some z ∧ e = zD z
  | 0, i, e, h => by simp [zerosE] at h
  | n + 1, i, e, h => by
    simp only [zerosE] at h
    by_cases hi : i < ti.size
    · rw [List.getElem?_append_left (by simpa [hl] using hi), List.getElem?_map, Option.map_eq_some_iff] at h
      obtain ⟨z, h1, rfl⟩ := h
      exact ⟨z, by rw [Nat.mod_eq_of_lt hi]; exact h1, rfl⟩
    · rw [List.getElem?_append_right (by simp [hl]; omega)] at h
      simp only [List.length_map, hl] at h
      obtain ⟨z, h1, h2⟩ := zerosE_get ti hl n (i - ti.size) e h
      exact ⟨z, by rw [← Nat.mod_eq_sub_mod (by omega)] at h1; exact h1, h2⟩

theorem zeros_cells {P : Program} {t : TypeId} {ti : TI} {i : TypeInfo} {d : TypeDesc} {z : Value} (ht : TIs P t ti i d z) (hsz : 0 < ti.size) (M : Mem) (n : Nat) (j : Nat) (e : D) (h : (zerosE ti n)[j]? = some e) :
    (z.cells[j % z.cells.size]!).oneCell' = true ∧ R M e (z.cells[j % z.cells.size]!) := by
  have hzc : z.cells.size = ti.size := by rw [← Array.length_toList, ht.cells]; simpa using ht.len
  obtain ⟨zz, h1, rfl⟩ := zerosE_get ti ht.len n j e h
  have hm : j % z.cells.size < z.cells.size := Nat.mod_lt _ (by omega)
  have hg : z.cells[j % z.cells.size]? = some zz.val := by
    rw [← Array.getElem?_toList, ht.cells, hzc]
    simp [h1]
  rw [getElem!_pos z.cells _ hm]
  rw [Array.getElem?_eq_getElem hm] at hg
  rw [Option.some.inj hg]
  exact ⟨Aw.zval_one zz, .lit _ (Aw.zval_ok zz)⟩

/-! ### A literal -/
def buildSliceE (P : Program) (h : H) (t : TypeId) (n : Nat) (parts : List (Nat × D)) : Option (D × H) :=
  match tiOf P t with
  | some { k := .sl e, .. } => (match tiOf P e with
    | some ti => bif Nat.blt 0 ti.size && Nat.ble (n * ti.size) 16777216 then
        (match fillD (fun i => some (i * ti.size, ti.size)) (zerosE ti n) parts with
        | some out => some (.sl h.nx 0 n (some n), { hp := h.hp.set h.nx (.cells e none out), nx := h.nx + 1 })
        | none => none) else none
    | none => none)
  | _ => none

theorem buildSlice_ok {P : Program} {M : Mem} {h h' : H} {w : World} (hr : RH M h w) {t : TypeId} {n : Nat} {parts : List (Nat × D)} {vs : Array (Nat × Value)} {y : D}
    (he : buildSliceE P h t n parts = some (y, h')) (hl : parts.length = vs.size) (hp : ∀ (j : Nat) p q, parts[j]? = some p → vs[j]? = some q → q.1 = p.1 ∧ R M p.2 q.2) :
    ∃ q w' M', (Instr.buildSlice t n vs).run P w = .ok q w' ∧ RH M' h' w' ∧ R M' y q ∧ Ext M w M' w' := by
  unfold buildSliceE at he
  split at he
  case h_2 => cases he
  rename_i tsize tbytes e tz htt
  obtain ⟨it, dt, zt, ht⟩ := tiOf_spec htt
  have hte := und_sl ht rfl
  split at he
  case h_2 => cases he
  rename_i ti hti
  obtain ⟨i, d, z, hi⟩ := tiOf_spec hti
  rw [cond_eq_ite] at he
  split at he
  case isFalse => cases he
  rename_i hcc
  simp only [Bool.and_eq_true, Nat.ble_eq, Nat.blt_eq] at hcc
  obtain ⟨hsz, hlim⟩ := hcc
  split at he
  case h_2 => cases he
  rename_i out hfill
  cases he
  have hzc : z.cells.size = ti.size := by rw [← Array.length_toList, hi.cells]; simpa using hi.len
  let cs0 : Array Value := (Array.range (n * ti.size)).map (z.cells[· % z.cells.size]!)
  obtain ⟨res, r1, r2, r4, r3⟩ := fill_ok (M := M) (fun i => some (i * ti.size, ti.size)) parts vs.toList _ cs0 out hfill (by simpa using hl) (fun j p q hj hq => hp j p q hj (by simpa using hq)) (by simp [cs0, zerosE_length ti hi.len])
    (fun j x hj => by
      have hlt : j < n * ti.size := by rw [← zerosE_length ti hi.len n]; exact (List.getElem?_eq_some_iff.1 hj).1
      have : cs0.getD j undef = z.cells[j % z.cells.size]! := by simp [cs0, Array.getD_eq_getD_getElem?, hlt]
      rw [this]
      exact zeros_cells hi hsz M n j x hj)
  rw [zerosE_length ti hi.len] at r4
  have hrun : (Instr.buildSlice t n vs).run P w = .ok (.slice (some ⟨w.heap.size, 0, none⟩) n n) (w.alloc (.cells res e)) := by
    unfold Instr.buildSlice
    simp only [Sem.run_bind, run_underlying hte, Result.andThen_ok, Aw.run_sizeOf hi]
    rw [if_neg (by simpa using hlim)]
    by_cases h0 : n * ti.size = 0
    · have hn0 : n = 0 := (Nat.mul_eq_zero.1 h0).elim id (fun h => absurd h (by omega))
      subst hn0
      have hres : res = #[] := Array.eq_empty_of_size_eq_zero (by omega)
      cases hv : vs.toList with
      | cons p q =>
        exfalso
        have hpl : parts.length = q.length + 1 := by rw [hl, ← Array.length_toList, hv]; simp
        cases parts with
        | nil => simp at hpl
        | cons a r =>
          obtain ⟨a1, a2⟩ := a
          simp only [fillD] at hfill
          rw [cond_eq_ite] at hfill
          split at hfill
          · rename_i hc
            simp only [Bool.and_eq_true, Nat.ble_eq, zerosE, List.length_nil] at hc
            omega
          · cases hfill
      | nil =>
        have hvs : vs = #[] := by simpa using hv
        subst hvs hres
        have hz0 : Array.range 0 = #[] := by apply Array.ext'; simp
        simp [newRow, Instr.fill, hz0]
    · rw [if_neg h0]
      have hr1 : Instr.fill (fun i => some (i * ti.size, ti.size)) ((Array.range (n * ti.size)).map (z.cells[· % z.cells.size]!)) vs.toList = some res := r1
      simp only [Sem.run_bind, zeroValue, typeInfo, run_program, Result.andThen_ok, hi.info, hi.zero, Sem.run_pure, hr1, newRow, run_newObj]
      rfl
  obtain ⟨g1, g2⟩ := hr.fresh (w' := w.alloc (.cells res e)) (.cells e none out) w.heap.size 0 rfl rfl rfl (by simp) (fun n hn => halloc_old w _ n hn) (by simp)
    (fun hle => ⟨res, halloc_new w _, r2, fun i x hx => ⟨(r3 i x hx).1, (r3 i x hx).2.mono hle⟩⟩)
  have hnm : n ≤ maxLen := by simp only [maxLen]; have : n * 1 ≤ n * ti.size := Nat.mul_le_mul_left _ hsz; omega
  exact ⟨_, _, _, hrun, g1, .sl _ _ _ _ _ _ ⟨by simp [Mem.set], fun b' c' e => by simp [Mem.set] at e; exact e.1.symm, by simp [Mem.set]⟩ (fun q hq => by cases hq; rfl) (by simp) (Nat.le_refl _) hnm, g2⟩

/-! ### make([]T, n, c) -/
def makeE (P : Program) (h : H) (t : TypeId) (x y : D) : Option (D × H) :=
  match tiOf P t with
  | some { k := .sl e, .. } => (match tiOf P e, x, y with
    | some ti, .lit (.int _ (.ofNat n)), .lit (.int _ (.ofNat c)) => bif Nat.blt 0 ti.size && (Nat.ble n c && (Nat.ble (ti.bytes * c) 281474976710656 && Nat.ble c 9223372036854775807)) then
        some (bif Nat.beq n c then (.sl h.nx 0 n (some n), { hp := h.hp.set h.nx (.cells e none (zerosE ti n)), nx := h.nx + 1 })
          else (.sl h.nx 0 n none, { hp := h.hp.set h.nx (.cells e (some ti.size) (zerosE ti n)), nx := h.nx + 1 })) else none
    | _, _, _ => none)
  | _ => none

theorem make_ok {P : Program} {M : Mem} {h h' : H} {w : World} (hr : RH M h w) {t : TypeId} {x y p : D} (he : makeE P h t x y = some (p, h')) {v u : Value} (hv : R M x v) (hu : R M y u) :
    ∃ q w' M', (Instr.makeSlice t v u).run P w = .ok q w' ∧ RH M' h' w' ∧ R M' p q ∧ Ext M w M' w' := by
  unfold makeE at he
  split at he
  case h_2 => cases he
  rename_i tsize tbytes e tz htt
  obtain ⟨it, dt, zt, ht⟩ := tiOf_spec htt
  have hte := und_sl ht rfl
  split at he
  case h_2 => cases he
  rename_i ti kn n kc c hti
  obtain ⟨i, d, z, hi⟩ := tiOf_spec hti
  rw [cond_eq_ite] at he
  split at he
  case isFalse => cases he
  rename_i hcc
  simp only [Bool.and_eq_true, Nat.ble_eq, Nat.blt_eq] at hcc
  obtain ⟨hsz, hnc, hb, hc⟩ := hcc
  cases hv
  cases hu
  have hzc : z.cells.size = ti.size := by rw [← Array.length_toList, hi.cells]; simpa using hi.len
  have hrun := run_make (P := P) w t e i z hte hi.info hi.zero kn kc (n : Int) (c : Int) (by omega) (by omega) (by rw [hi.bytes, ← Int.natCast_mul]; omega) (by omega)
  rw [hi.size] at hrun
  simp only [Int.toNat_natCast] at hrun
  have hms : (madeCells z.cells (c * ti.size)).size = c * ti.size := by simp [madeCells]
  have hle : n * ti.size ≤ c * ti.size := Nat.mul_le_mul_right _ hnc
  have hcell : ∀ (M' : Mem) (j : Nat) x, (zerosE ti n)[j]? = some x → ((madeCells z.cells (c * ti.size)).getD j undef).oneCell' = true ∧ R M' x ((madeCells z.cells (c * ti.size)).getD j undef) := fun M' j x hj => by
    have hlt : j < n * ti.size := by rw [← zerosE_length ti hi.len n]; exact (List.getElem?_eq_some_iff.1 hj).1
    have : (madeCells z.cells (c * ti.size)).getD j undef = z.cells[j % z.cells.size]! := by
      simp [madeCells, Array.getD_eq_getD_getElem?, show j < c * ti.size by omega]
    rw [this]
    exact zeros_cells hi hsz M' n j x hj
  simp only [Option.some.injEq, cond_eq_ite] at he
  split at he
  · rename_i hnc2
    have := Nat.eq_of_beq_eq_true hnc2
    subst this
    cases he
    obtain ⟨g1, g2⟩ := hr.fresh (w' := w.alloc (.cells (madeCells z.cells (n * ti.size)) e)) (.cells e none (zerosE ti n)) w.heap.size 0 rfl rfl rfl (by simp) (fun n hn => halloc_old w _ n hn) (by simp)
      (fun hle => ⟨_, halloc_new w _, by rw [hms, zerosE_length ti hi.len], fun i x hx => hcell _ i x hx⟩)
    exact ⟨_, _, _, hrun, g1, .sl _ _ _ _ _ _ ⟨by simp [Mem.set], fun b' c' e => by simp [Mem.set] at e; exact e.1.symm, by simp [Mem.set]⟩ (fun q hq => by cases hq; rfl) (by simp) (Nat.le_refl _) (by simpa [maxLen] using hc), g2⟩
  · cases he
    obtain ⟨g1, g2⟩ := hr.fresh (w' := w.alloc (.cells (madeCells z.cells (c * ti.size)) e)) (.cells e (some ti.size) (zerosE ti n)) w.heap.size c rfl rfl rfl (by simp) (fun n hn => halloc_old w _ n hn) (by simp)
      (fun hle' => ⟨_, halloc_new w _, ⟨by rw [hms, zerosE_length ti hi.len]; exact hle, hms, by simpa [maxLen] using hc⟩, fun i x hx => hcell _ i x hx⟩)
    exact ⟨_, _, _, hrun, g1, .sl _ _ _ _ _ _ ⟨by simp [Mem.set], fun b' c' e => by simp [Mem.set] at e; exact e.1.symm, by simp [Mem.set]⟩ (by simp) (fun _ _ b' c' e => by simp [Mem.set] at e; exact e.2) hnc (by simpa [maxLen] using hc), g2⟩

/-! ### What is appended, or copied -/
def srcE (h : H) (sz : Nat) : D → Option (Nat × List D)
  | .lit (.slice none 0 0) => some (0, [])
  | .lit (.string b) => bif Nat.beq sz 1 then some (b.size, b.data.toList.map fun u => .lit (.int .u8 u.toNat)) else none
  | .em => some (0, [])
  | .sl l off len _ => match h.hp.get l with
    | some (.cells _ _ ds) => bif Nat.ble (off + len * sz) ds.length then some (len, (ds.drop off).take (len * sz)) else none
    | _ => none
  | _ => none

structure SrcD (P : Program) (M : Mem) (sz : Nat) (tx : TypeId) (x : Value) (n : Nat) (ds : List D) (news : List Value) (w : World) : Prop where
  src : Src P sz tx x n news w
  len : news.length = ds.length
  at_ : ∀ (i : Nat) d, ds[i]? = some d → (news.getD i undef).oneCell' = true ∧ R M d (news.getD i undef)

/-- A type of which things are appended. -/
def isSrc (P : Program) (tx : TypeId) (x : D) : Bool :=
  match tiOf P tx with
  | some { k := .sl _, .. } => match x with | .lit (.string _) => false | _ => true
  | some { k := .str, .. } => match x with | .lit (.string _) => true | _ => false
  | _ => false

theorem src_ok {P : Program} {M : Mem} {h : H} {w : World} (hr : RH M h w) {sz n : Nat} {x : D} {ds : List D} (he : srcE h sz x = some (n, ds)) {tx : TypeId} (hx : isSrc P tx x = true) {v : Value} (hv : R M x v) : ∃ news, SrcD P M sz tx v n ds news w := by
  have kind : (∃ e', P.underlying tx = some (.slice e') ∧ ∀ b, x ≠ .lit (.string b)) ∨ (P.underlying tx = some .string ∧ ∃ b, x = .lit (.string b)) := by
    unfold isSrc at hx
    split at hx
    · rename_i htt
      obtain ⟨it, dt, zt, ht⟩ := tiOf_spec htt
      refine .inl ⟨_, und_sl ht rfl, fun b hb => ?_⟩
      subst hb
      cases hx
    · rename_i htt
      obtain ⟨it, dt, zt, ht⟩ := tiOf_spec htt
      refine .inr ⟨und_str ht rfl, ?_⟩
      split at hx
      · exact ⟨_, rfl⟩
      · cases hx
    · cases hx
  unfold srcE at he
  split at he
  · cases he
    cases hv
    rcases kind with ⟨e', hk, _⟩ | ⟨_, b, hb⟩
    · exact ⟨[], Src.ofNil w hk 0, rfl, by simp⟩
    · cases hb
  · rename_i b
    rw [cond_eq_ite] at he
    split at he
    · rename_i h1
      have := Nat.eq_of_beq_eq_true h1
      subst this
      cases he
      cases hv
      rcases kind with ⟨e', hk, hb⟩ | ⟨hk, _⟩
      · exact absurd rfl (hb b)
      · refine ⟨byteCells b, Src.ofString w hk b, by simp [byteCells], fun i d hd => ?_⟩
        simp only [List.getElem?_map, Option.map_eq_some_iff] at hd
        obtain ⟨q, hq, rfl⟩ := hd
        have : (byteCells b).getD i undef = .int .u8 q.toNat := by simp only [byteCells, List.getD_eq_getElem?_getD, List.getElem?_map, hq, Option.map_some, Option.getD_some]
        rw [this]
        exact ⟨rfl, .lit _ trivial⟩
    · cases he
  · cases he
    rcases kind with ⟨e', hk, _⟩ | ⟨_, b, hb⟩
    · cases hv with
      | em a k hm =>
      cases a with
      | none => exact ⟨[], Src.ofNil w hk k, rfl, by simp⟩
      | some a => exact ⟨[], Src.ofSlice w hk a 0 k [] (by simp) (by simp) (by simp), rfl, by simp⟩
    · cases hb
  · rename_i l off len cap
    split at he
    · rename_i ty op cs hcs
      rw [cond_eq_ite] at he
      split at he
      · rename_i hle
        simp only [Nat.ble_eq] at hle
        cases he
        rcases kind with ⟨e', hk, _⟩ | ⟨_, b, hb⟩
        · cases hv with
          | sl _ _ _ _ b k ha hkk h0 hn hm =>
          obtain ⟨c, hl, cur, hc1, hc2, hc3⟩ := hr.look hcs ha
          have hsz : cs.length ≤ cur.size := by
            cases op with
            | none => simp only at hc2; omega
            | some q => exact hc2.1
          have hget : ∀ j, j < n * sz → ((cs.drop off).take (n * sz))[j]? = cs[off + j]? := fun j hj => by rw [List.getElem?_take_of_lt hj, List.getElem?_drop]
          have hnl : ((cs.drop off).take (n * sz)).length = n * sz := by simp; omega
          have hcg : ∀ j, j < n * sz → ∃ d, cs[off + j]? = some d := fun j hj => ⟨_, List.getElem?_eq_getElem (by omega)⟩
          refine ⟨(List.range (n * sz)).map fun j => cur.getD (off + j) undef, Src.ofSlice w hk _ _ _ _ (by simp) (fun j u hj => ?_) (fun u hu => ?_), by simp; omega, fun j d hd => ?_⟩
          · simp only [List.getElem?_map, Option.map_eq_some_iff] at hj
            obtain ⟨j', hj', rfl⟩ := hj
            have hlt : j < n * sz := by have := (List.getElem?_eq_some_iff.1 hj').1; simpa using this
            have : j' = j := by rw [List.getElem?_range hlt] at hj'; exact (Option.some.inj hj').symm
            subst this
            rw [addr_add]
            simp [World.cell?, hc1, Array.getD, show off + j' < cur.size by omega]
          · simp only [List.mem_map, List.mem_range] at hu
            obtain ⟨j, hj, rfl⟩ := hu
            obtain ⟨d, hd⟩ := hcg j hj
            exact (hc3 _ _ hd).1
          · have hlt : j < n * sz := by rw [← hnl]; exact (List.getElem?_eq_some_iff.1 hd).1
            rw [hget j hlt] at hd
            have : ((List.range (n * sz)).map fun j => cur.getD (off + j) undef).getD j undef = cur.getD (off + j) undef := by simp [List.getD_eq_getElem?_getD, hlt]
            rw [this]
            exact hc3 _ _ hd
        · cases hb
      · cases he
    · cases he
  · cases he

/-! ### append -/
def appendE (P : Program) (h : H) (t tx : TypeId) (x y : D) : Option (D × H) :=
  match tiOf P t with
  | some { k := .sl e, .. } => (match tiOf P e with
    | some ti => bif Nat.blt 0 ti.size && isSrc P tx y then (match srcE h ti.size y with
      | some (0, _) => (match x with
        | .lit (.slice none 0 0) => some (x, h)
        | .sl _ _ _ _ => some (x, h)
        | _ => none)
      | some (n + 1, news) => (match x with
        | .lit (.slice none 0 0) => bif Nat.ble ((n + 1) * ti.bytes) 140737488355328 && Nat.ble (n + 1) 9223372036854775807 then
            some (.sl h.nx 0 (n + 1) none, { hp := h.hp.set h.nx (.cells e (some ti.size) news), nx := h.nx + 1 }) else none
        | .sl l off len cap => (match h.hp.get l with
          | some (.cells ty op ds) => bif Nat.ble ((len + (n + 1)) * ti.bytes) 140737488355328 && (Nat.ble (len + (n + 1)) 9223372036854775807 && Nat.ble (off + len * ti.size) ds.length) then (match cap with
            | some k => bif Nat.ble (len + (n + 1)) k then
                (bif Nat.ble (off + len * ti.size + news.length) ds.length then
                  some (.sl l off (len + (n + 1)) (some k), { h with hp := h.hp.set l (.cells ty op (ds.take (off + len * ti.size) ++ news ++ ds.drop (off + len * ti.size + news.length))) }) else none)
                else some (.sl h.nx 0 (len + (n + 1)) none, { hp := h.hp.set h.nx (.cells e (some ti.size) ((ds.drop off).take (len * ti.size) ++ news)), nx := h.nx + 1 })
            | none => (match op with
              | some sz => bif Nat.beq off 0 && (Nat.ble (len * ti.size) ds.length && (Nat.beq sz ti.size && Nat.beq ty e)) then
                  some (.sl h.nx 0 (len + (n + 1)) none, { hp := (h.hp.del l).set h.nx (.cells e (some ti.size) (ds.take (len * ti.size) ++ news)), nx := h.nx + 1 }) else none
              | none => none)) else none
          | _ => none)
        | _ => none)
      | none => none) else none
    | none => none)
  | _ => none

theorem getD_append2 (a b : List Value) (i : Nat) : (a ++ b).toArray.getD i undef = if i < a.length then a.getD i undef else b.getD (i - a.length) undef := by
  simp only [Array.getD_eq_getD_getElem?, List.getElem?_toArray, List.getD_eq_getElem?_getD]
  split
  · rename_i h; rw [List.getElem?_append_left h]
  · rename_i h; rw [List.getElem?_append_right (by omega)]

theorem grow_new {P : Program} {M : Mem} {h : H} {w : World} (hr : RH M h w) (e : TypeId) {ti : TI} {i : TypeInfo} {d : TypeDesc} {z : Value} (hi : TIs P e ti i d z) (need old : Nat) (vs : List Value) (ds : List D) (hv : vs.length = need * ti.size) (hvd : vs.length = ds.length)
    (hat : ∀ (i : Nat) d, ds[i]? = some d → (vs.getD i undef).oneCell' = true ∧ R M d (vs.getD i undef)) (hm : need ≤ maxLen) :
    ∃ M', RH M' { hp := h.hp.set h.nx (.cells e (some ti.size) ds), nx := h.nx + 1 } (w.drew.alloc (.cells (vs.toArray ++ Builtin.zeroCells z.cells (grownCap w need old e - need)) e)) ∧
      R M' (.sl h.nx 0 need none) (.slice (some ⟨w.heap.size, 0, none⟩) need (grownCap w need old e)) ∧ Ext M w M' (w.drew.alloc (.cells (vs.toArray ++ Builtin.zeroCells z.cells (grownCap w need old e - need)) e)) := by
  have hge : need ≤ grownCap w need old e := grownCap_ge w _ old e
  have hle : grownCap w need old e ≤ maxLen := grownCap_le_maxLen w _ old e hm
  have hzc : z.cells.size = ti.size := by rw [← Array.length_toList, hi.cells]; simpa using hi.len
  have hmul : need * ti.size ≤ grownCap w need old e * ti.size := Nat.mul_le_mul_right _ hge
  have hsize : (vs.toArray ++ Builtin.zeroCells z.cells (grownCap w need old e - need)).size = grownCap w need old e * ti.size := by
    simp only [Array.size_append, List.size_toArray, size_zeroCells, hzc, hv, Nat.sub_mul]; omega
  have hb : ∀ M' : Mem, M.le M' → RB M' (w.drew.alloc (.cells (vs.toArray ++ Builtin.zeroCells z.cells (grownCap w need old e - need)) e)) (.cells e (some ti.size) ds) w.heap.size (grownCap w need old e) := fun M' hle' => by
    refine ⟨_, halloc_new w.drew _, ⟨?_, hsize, hle⟩, fun j x hx => ?_⟩
    · simp only [Array.size_append, List.size_toArray]; omega
    · have hlt : j < vs.length := by rw [hvd]; exact (List.getElem?_eq_some_iff.1 hx).1
      have : (vs.toArray ++ Builtin.zeroCells z.cells (grownCap w need old e - need)).getD j undef = vs.getD j undef := by
        simp only [Array.getD_eq_getD_getElem?, List.getD_eq_getElem?_getD]
        rw [Array.getElem?_append_left (by simpa using hlt)]
        simp
      rw [this]
      exact ⟨(hat j x hx).1, (hat j x hx).2.mono hle'⟩
  obtain ⟨g1, g2⟩ := hr.fresh (w' := w.drew.alloc (.cells (vs.toArray ++ Builtin.zeroCells z.cells (grownCap w need old e - need)) e)) (.cells e (some ti.size) ds) w.heap.size (grownCap w need old e) rfl rfl rfl (by simp)
    (fun n hn => halloc_old w.drew _ n hn) (by simp) (hb _)
  exact ⟨_, g1, .sl _ _ _ _ _ _ ⟨by simp [Mem.set], fun b' c' q => by simp [Mem.set] at q; exact q.1.symm, by simp [Mem.set]⟩ (by simp) (fun _ _ b' c' q => by simp [Mem.set] at q; exact q.2) hge hle, g2⟩

theorem append_ok {P : Program} {M : Mem} {h h' : H} {w : World} (hr : RH M h w) {t tx ty : TypeId} {x y p : D} (he : appendE P h t tx x y = some (p, h')) {v u : Value} (hv : R M x v) (hu : R M y u) :
    ∃ q w' M', (Builtin.append_ #[t, tx] ty #[v, u]).run P w = .ok q w' ∧ RH M' h' w' ∧ R M' p q ∧ Ext M w M' w' := by
  unfold appendE at he
  split at he
  case h_2 => cases he
  rename_i tsize tbytes e tz htt
  obtain ⟨it, dt, zt, ht⟩ := tiOf_spec htt
  have hte := und_sl ht rfl
  split at he
  case h_2 => cases he
  rename_i ti hti
  obtain ⟨i, d, z, hi⟩ := tiOf_spec hti
  rw [cond_eq_ite] at he
  split at he
  case isFalse => cases he
  rename_i hcc
  simp only [Bool.and_eq_true, Nat.blt_eq] at hcc
  obtain ⟨hsz, hsrc⟩ := hcc
  split at he
  case h_3 => cases he
  · -- nothing is appended
    rename_i ds hs
    obtain ⟨news, hS⟩ := src_ok hr hs hsrc hu
    have hS := hS.src
    rw [← hi.size] at hS
    have hn : news = [] := List.eq_nil_of_length_eq_zero (by simpa using hS.newsLen)
    subst hn
    have run : ∀ (b : Option Addr) (len k : Nat), len ≤ k → (Builtin.append_ #[t, tx] ty #[.slice b len k, u]).run P w = .ok (.slice b len k) w := by
      intro b len k hlk
      rcases hS.kind with ⟨e', hk⟩ | hk <;> cases b <;> simp [Builtin.append_, run_underlying hte, run_underlying hk, sizeOf, typeInfo, hi.info, hS.len, hlk, hS.cells, storeCells]
    split at he
    · cases he
      cases hv
      exact ⟨_, w, M, run none 0 0 (Nat.le_refl _), hr, .lit _ trivial, Ext.refl M w⟩
    · cases he
      cases hv with
      | sl _ _ _ _ b k ha hk h0 hn hm =>
      exact ⟨_, w, M, run _ _ _ hn, hr, .sl _ _ _ _ b k ha hk h0 hn hm, Ext.refl M w⟩
    · cases he
  · rename_i n dnews hs
    obtain ⟨news, hS⟩ := src_ok hr hs hsrc hu
    have hSs := hS.src
    rw [← hi.size] at hSs
    have hnl : news.length = (n + 1) * ti.size := by rw [hS.src.newsLen]
    split at he
    · -- onto nil
      rw [cond_eq_ite] at he
      split at he
      case isFalse => cases he
      rename_i hcc
      simp only [Bool.and_eq_true, Nat.ble_eq] at hcc
      cases he
      cases hv
      have hrun := run_append_grow_src (P := P) w t tx ty e i z hte hi.info hi.zero none 0 0 [] (run_firstCells_none w.drew i.size 0 0 0) u (n + 1) news hSs (by omega) (by omega) (growslice_fits (by omega) (by rw [hi.bytes]; simpa using hcc.1))
      simp only [Nat.zero_add, List.nil_append] at hrun
      obtain ⟨M', g1, g2, g3⟩ := grow_new (P := P) hr e hi (n + 1) 0 news dnews hnl hS.len hS.at_ (by simpa [maxLen] using hcc.2)
      exact ⟨_, _, M', hrun, g1, g2, g3⟩
    · rename_i l off len cap
      split at he
      case h_2 => cases he
      rename_i ty' op cs hcs
      rw [cond_eq_ite] at he
      split at he
      case isFalse => cases he
      rename_i hcc
      simp only [Bool.and_eq_true, Nat.ble_eq] at hcc
      obtain ⟨hb, hm, hle⟩ := hcc
      cases hv with
      | sl _ _ _ _ b k ha hk h0 hlk hmk =>
      obtain ⟨c, hl, cur, hc1, hc2, hc3⟩ := hr.look hcs ha
      have hcsz : cs.length ≤ cur.size := by
        cases op with
        | none => simp only at hc2; omega
        | some q => exact hc2.1
      have hfit : ∀ old, old < len + (n + 1) → Builtin.nextslicecap (len + (n + 1)) old * i.bytes ≤ 281474976710656 := fun old ho => growslice_fits ho (by rw [hi.bytes]; exact hb)
      -- its cells
      let olds : List Value := (List.range (len * ti.size)).map fun j => cur.getD (off + j) undef
      have holds : (Builtin.firstCells i.size len (.slice (some ⟨b, off, none⟩) len k)).run P w.drew = .ok olds.toArray w.drew := by
        refine run_firstCells_some w.drew i.size len _ len k olds (by simp [olds, hi.size]) (fun j q hj => ?_)
        simp only [olds, List.getElem?_map, Option.map_eq_some_iff] at hj
        obtain ⟨j', hj', rfl⟩ := hj
        have hlt : j < len * ti.size := by have := (List.getElem?_eq_some_iff.1 hj').1; simpa using this
        have : j' = j := by rw [List.getElem?_range hlt] at hj'; exact (Option.some.inj hj').symm
        subst this
        rw [addr_add]
        show w.cell? _ = _
        simp [World.cell?, hc1, Array.getD, show off + j' < cur.size by omega]
      have holdat : ∀ (j : Nat) q, ((cs.drop off).take (len * ti.size))[j]? = some q → (olds.getD j undef).oneCell' = true ∧ R M q (olds.getD j undef) := fun j q hj => by
        have hlt : j < len * ti.size := by have := (List.getElem?_eq_some_iff.1 hj).1; simp at this; omega
        rw [List.getElem?_take_of_lt hlt, List.getElem?_drop] at hj
        have : olds.getD j undef = cur.getD (off + j) undef := by simp [olds, List.getD_eq_getElem?_getD, hlt]
        rw [this]
        exact hc3 _ _ hj
      have hol : olds.length = len * ti.size := by simp [olds]
      have hdl : ((cs.drop off).take (len * ti.size)).length = len * ti.size := by simp; omega
      have hbothat : ∀ (j : Nat) q, ((cs.drop off).take (len * ti.size) ++ dnews)[j]? = some q → ((olds ++ news).getD j undef).oneCell' = true ∧ R M q ((olds ++ news).getD j undef) := fun j q hj => by
        by_cases hlt : j < len * ti.size
        · rw [List.getElem?_append_left (by omega)] at hj
          have : (olds ++ news).getD j undef = olds.getD j undef := by simp only [List.getD_eq_getElem?_getD]; rw [List.getElem?_append_left (by omega)]
          rw [this]
          exact holdat j q hj
        · rw [List.getElem?_append_right (by omega), hdl] at hj
          have : (olds ++ news).getD j undef = news.getD (j - len * ti.size) undef := by simp only [List.getD_eq_getElem?_getD]; rw [List.getElem?_append_right (by omega), hol]
          rw [this]
          exact hS.at_ _ q hj
      have grow : k < len + (n + 1) → ∃ w' M', (Builtin.append_ #[t, tx] ty #[.slice (some ⟨b, off, none⟩) len k, u]).run P w = .ok (.slice (some ⟨w.heap.size, 0, none⟩) (len + (n + 1)) (grownCap w (len + (n + 1)) k e)) w' ∧
          RH M' { hp := h.hp.set h.nx (.cells e (some ti.size) ((cs.drop off).take (len * ti.size) ++ dnews)), nx := h.nx + 1 } w' ∧
          R M' (.sl h.nx 0 (len + (n + 1)) none) (.slice (some ⟨w.heap.size, 0, none⟩) (len + (n + 1)) (grownCap w (len + (n + 1)) k e)) ∧ Ext M w M' w' := by
        intro hlt
        have hrun := run_append_grow_src (P := P) w t tx ty e i z hte hi.info hi.zero (some ⟨b, off, none⟩) len k olds holds u (n + 1) news hSs hlt (by omega) (hfit k hlt)
        obtain ⟨M', g1, g2, g3⟩ := grow_new (P := P) hr e hi (len + (n + 1)) k (olds ++ news) ((cs.drop off).take (len * ti.size) ++ dnews) (by rw [List.length_append, hol, hnl, ← Nat.add_mul]) (by rw [List.length_append, List.length_append, hol, hdl, hS.len]) hbothat (by simpa [maxLen] using hm)
        exact ⟨_, M', hrun, g1, g2, g3⟩
      -- where there is room
      have room : len + (n + 1) ≤ k → off + len * ti.size + news.length ≤ cur.size →
          (Builtin.append_ #[t, tx] ty #[.slice (some ⟨b, off, none⟩) len k, u]).run P w = .ok (.slice (some ⟨b, off, none⟩) (len + (n + 1)) k) (w.setRow b (cur.toList.take (off + len * ti.size) ++ news ++ cur.toList.drop (off + len * ti.size + news.length)).toArray) := by
        intro h1 h2
        have hst := run_storeCells_at P b (off + len * ti.size) ty' news 0 cur w hc1 (by simpa using h2) hSs.one
        simp only [Nat.add_zero] at hst
        have hin : ∀ j, j < news.length → off + len * ti.size + j < cur.size := fun j hj => by omega
        have hcc : ∀ j, j < news.length → (w.cell? ⟨b, off + len * i.size + j, none⟩).isSome = true := fun j hj => by
          rw [hi.size]; simp [World.cell?, hc1, hin j hj]
        have hff : ∀ j, j < news.length → w.frozen? ⟨b, off + len * i.size + j, none⟩ = false := fun j hj => by
          simp [World.frozen?, hc1]
        have hst2 := run_storeCells_cells (P := P) b (off + len * i.size) news 0 w (by simpa using hcc) (by simpa using hff) hSs.one
        simp only [Nat.add_zero, hi.size] at hst2
        have heq : w.setCells b (off + len * ti.size) news = w.setRow b (cur.toList.take (off + len * ti.size) ++ news ++ cur.toList.drop (off + len * ti.size + news.length)).toArray := by
          rw [hst] at hst2
          injection hst2 with _ q
          exact q.symm
        have := run_append_room_src (P := P) w t tx ty e i hte hi.info b off len k u (n + 1) news hSs h1 hcc hff
        rw [hi.size, heq] at this
        exact this
      -- what is written there
      have wat : ∀ (cs' : List D) (j : Nat) q, cs' = cs.take (off + len * ti.size) ++ dnews ++ cs.drop (off + len * ti.size + dnews.length) → off + len * ti.size ≤ cs.length → off + len * ti.size + news.length ≤ cur.size → cs'[j]? = some q →
          ((cur.toList.take (off + len * ti.size) ++ news ++ cur.toList.drop (off + len * ti.size + news.length)).toArray.getD j undef).oneCell' = true ∧ R M q ((cur.toList.take (off + len * ti.size) ++ news ++ cur.toList.drop (off + len * ti.size + news.length)).toArray.getD j undef) := by
        intro cs' j q e1 h1 h2 hj
        rw [e1, get_append3] at hj
        rw [getD_toArray_append3]
        have m1 : min (off + len * ti.size) cs.length = off + len * ti.size := by omega
        have m2 : min (off + len * ti.size) cur.size = off + len * ti.size := by omega
        simp only [List.length_take, Array.length_toList, m1, m2, ← hS.len] at hj ⊢
        split
        · rename_i q1
          rw [if_pos q1, List.getElem?_take_of_lt q1] at hj
          rw [show (cur.toList.take (off + len * ti.size)).getD j undef = cur.getD j undef by simp [List.getD_eq_getElem?_getD, List.getElem?_take_of_lt q1, Array.getD_eq_getD_getElem?]]
          exact hc3 j q hj
        · rename_i q1
          rw [if_neg q1] at hj
          split
          · rename_i q2
            rw [if_pos q2] at hj
            exact hS.at_ _ q hj
          · rename_i q2
            rw [if_neg q2, List.getElem?_drop] at hj
            rw [show (cur.toList.drop (off + len * ti.size + news.length)).getD (j - (off + len * ti.size) - news.length) undef = cur.getD (off + len * ti.size + news.length + (j - (off + len * ti.size) - news.length)) undef by simp [List.getD_eq_getElem?_getD, Array.getD_eq_getD_getElem?]]
            exact hc3 _ q hj
      have wsize : off + len * ti.size + news.length ≤ cur.size → (cur.toList.take (off + len * ti.size) ++ news ++ cur.toList.drop (off + len * ti.size + news.length)).toArray.size = cur.size := fun h2 => by
        simp only [List.size_toArray, List.length_append, List.length_take, List.length_drop, Array.length_toList]; omega
      cases cap with
      | some k' =>
        have := hk _ rfl
        subst this
        simp only [cond_eq_ite] at he
        split at he
        · rename_i hrm
          simp only [Nat.ble_eq] at hrm
          split at he
          case isFalse => cases he
          rename_i hwi
          simp only [Nat.ble_eq] at hwi
          cases he
          have h2 : off + len * ti.size + news.length ≤ cur.size := by rw [hS.len]; omega
          obtain ⟨g1, g2⟩ := hr.write (w' := w.setRow b (cur.toList.take (off + len * ti.size) ++ news ++ cur.toList.drop (off + len * ti.size + news.length)).toArray) hl
            (.cells ty' op (cs.take (off + len * ti.size) ++ dnews ++ cs.drop (off + len * ti.size + dnews.length))) rfl rfl rfl (by simp) (fun m hm => setRow_other w b m _ (fun q => hm q))
            ⟨_, setRow_heap w b cur _ ty' (0, 0) hc1, by
              rw [wsize h2]
              have : (cs.take (off + len * ti.size) ++ dnews ++ cs.drop (off + len * ti.size + dnews.length)).length = cs.length := by
                simp only [List.length_append, List.length_take, List.length_drop]; omega
              cases op with
              | none => simp only [this] at hc2 ⊢; exact hc2
              | some q => simp only [this] at hc2 ⊢; exact hc2, fun j q hj => wat _ j q rfl hle h2 hj⟩
          exact ⟨_, _, M, room hrm h2, g1, .sl _ _ _ _ b k ha (fun q hq => by cases hq; rfl) (by simp) hrm hmk, g2⟩
        · rename_i hrm
          simp only [Nat.ble_eq] at hrm
          cases he
          obtain ⟨w', M', g0, g1, g2, g3⟩ := grow (by omega)
          exact ⟨_, w', M', g0, g1, g2, g3⟩
      | none =>
        simp only at he
        split at he
        case h_2 => cases he
        rename_i sz
        rw [cond_eq_ite] at he
        split at he
        case isFalse => cases he
        rename_i hq
        simp only [Bool.and_eq_true] at hq
        obtain ⟨q1, q2, q3, q4⟩ := hq
        have q1 := Nat.eq_of_beq_eq_true q1
        have q2 := Nat.le_of_ble_eq_true q2
        have q3 := Nat.eq_of_beq_eq_true q3
        have q4 : ty' = e := Nat.eq_of_beq_eq_true q4
        subst q1 q3 q4
        cases he
        have hkc : k = c := h0 rfl rfl _ _ hl
        subst hkc
        obtain ⟨hc21, hc22, hc23⟩ := hc2
        have hkm : len * ti.size ≤ k * ti.size := Nat.mul_le_mul_right _ hlk
        by_cases hrm : len + (n + 1) ≤ k
        · have hmul : (len + (n + 1)) * ti.size ≤ k * ti.size := Nat.mul_le_mul_right _ hrm
          rw [Nat.add_mul, ← hnl] at hmul
          have h2 : 0 + len * ti.size + news.length ≤ cur.size := by omega
          have hct : (cs.take (len * ti.size)).length = len * ti.size := by rw [List.length_take]; omega
          obtain ⟨g1, g2⟩ := hr.move (w' := w.setRow b (cur.toList.take (0 + len * ti.size) ++ news ++ cur.toList.drop (0 + len * ti.size + news.length)).toArray) hl (.cells ty' (some ti.size) (cs.take (len * ti.size) ++ dnews)) b k rfl rfl rfl (by simp)
            (fun m _ hm => setRow_other w b m _ (fun q => hm q)) ⟨.inl rfl, by simpa using hr.inv.lt _ _ _ hl⟩ (fun hle' => ⟨_, setRow_heap w b cur _ ty' (0, 0) hc1, ⟨by rw [wsize h2, List.length_append, hct, ← hS.len]; omega, by rw [wsize h2]; exact hc22, hc23⟩, fun j q hj => by
              have := wat (cs.take (0 + len * ti.size) ++ dnews ++ cs.drop (0 + len * ti.size + dnews.length)) j q rfl (by omega) h2 (by rw [Nat.zero_add, List.getElem?_append_left (List.getElem?_eq_some_iff.1 hj).1]; exact hj)
              exact ⟨this.1, this.2.mono hle'⟩⟩)
          exact ⟨_, _, _, room hrm h2, g1, .sl _ _ _ _ b k ⟨by simp [Mem.set], fun b' c' q => by simp [Mem.set] at q; exact q.1.symm, by simp [Mem.set]⟩ (by simp) (fun _ _ b' c' q => by simp [Mem.set] at q; exact q.2) hrm hmk, g2⟩
        · have hlt : k < len + (n + 1) := by omega
          have hrun := run_append_grow_src (P := P) w t tx ty ty' i z hte hi.info hi.zero (some ⟨b, 0, none⟩) len k olds holds u (n + 1) news hSs hlt (by omega) (hfit k hlt)
          have hge : len + (n + 1) ≤ grownCap w (len + (n + 1)) k ty' := grownCap_ge w _ k ty'
          have hgle : grownCap w (len + (n + 1)) k ty' ≤ maxLen := grownCap_le_maxLen w _ k ty' (by simpa [maxLen] using hm)
          have hzc : z.cells.size = ti.size := by rw [← Array.length_toList, hi.cells]; simpa using hi.len
          have hmul : (len + (n + 1)) * ti.size ≤ grownCap w (len + (n + 1)) k ty' * ti.size := Nat.mul_le_mul_right _ hge
          have hbl : (olds ++ news).length = (len + (n + 1)) * ti.size := by rw [List.length_append, hol, hnl, ← Nat.add_mul]
          have hct : (cs.take (len * ti.size)).length = len * ti.size := by rw [List.length_take]; omega
          have hcsl : (cs.drop 0).take (len * ti.size) = cs.take (len * ti.size) := by rw [List.drop_zero]
          rw [hcsl] at hbothat
          have hsize : ((olds ++ news).toArray ++ Builtin.zeroCells z.cells (grownCap w (len + (n + 1)) k ty' - (len + (n + 1)))).size = grownCap w (len + (n + 1)) k ty' * ti.size := by
            simp only [Array.size_append, List.size_toArray, size_zeroCells, hzc, hbl, Nat.sub_mul]; omega
          obtain ⟨g1, g2⟩ := hr.move (w' := w.drew.alloc (.cells ((olds ++ news).toArray ++ Builtin.zeroCells z.cells (grownCap w (len + (n + 1)) k ty' - (len + (n + 1)))) ty')) hl (.cells ty' (some ti.size) (cs.take (len * ti.size) ++ dnews)) w.heap.size (grownCap w (len + (n + 1)) k ty') rfl rfl rfl (by simp)
            (fun m hm _ => halloc_old w.drew _ m hm) ⟨.inr (Nat.le_refl _), by simp⟩ (fun hle' => ⟨_, halloc_new w.drew _, ⟨by rw [hsize, List.length_append, hct, ← hS.len, hnl]; rw [Nat.add_mul] at hmul; omega, hsize, hgle⟩, fun j q hj => by
              have hlt : j < (olds ++ news).length := by
                have := (List.getElem?_eq_some_iff.1 hj).1
                rw [List.length_append, hct, ← hS.len] at this
                rw [List.length_append, hol]; omega
              have e2 : ((olds ++ news).toArray ++ Builtin.zeroCells z.cells (grownCap w (len + (n + 1)) k ty' - (len + (n + 1)))).getD j undef = (olds ++ news).getD j undef := by
                simp only [Array.getD_eq_getD_getElem?, List.getD_eq_getElem?_getD]
                rw [Array.getElem?_append_left (by simpa using hlt), List.getElem?_toArray]
              rw [e2]
              exact ⟨(hbothat j q hj).1, (hbothat j q hj).2.mono hle'⟩⟩)
          exact ⟨_, _, _, hrun, g1, .sl _ _ _ _ w.heap.size _ ⟨by simp [Mem.set], fun b' c' q => by simp [Mem.set] at q; exact q.1.symm, by simp [Mem.set]⟩ (by simp) (fun _ _ b' c' q => by simp [Mem.set] at q; exact q.2) hge hgle, g2⟩
    · cases he

end Go.Ev
