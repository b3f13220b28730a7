/-
  Memory is read, written, made; values of parts.
-/
import Derived.Test.YtgpmcnakeeahbabGreatEvA
import Derived.Test.YtgpmcnakeeahbabGreatAwG
import Derived.Lib.Strings
namespace Go.Ev
open Go.Aw (litOk Z TK TI kOf isAggV tiOf TIs tiOf_spec WF run_isAgg run_sizeOf run_loadVar_at addr_add toArray_getD run_storeVar_at getD_toArray_append3 get_append3 splice_get halloc_old halloc_new getD_list zval_ok zval_one fill_fold plOf)

def cellsD : D → List D
  | .agg l => l
  | d => [d]

def okX : D → Bool
  | .any => false
  | .un => false
  | .tup _ => false
  | .gd _ _ => false
  | _ => true

theorem lit_one {v : Value} (h : litOk v) : v.oneCell' = true := by cases v <;> simp_all [litOk, Value.oneCell']

theorem R.cells {M : Mem} {d : D} {v : Value} (h : R M d v) (hx : okX d = true) :
    v.cells.size = (cellsD d).length ∧ ∀ (i : Nat) e, (cellsD d)[i]? = some e → (v.cells.getD i undef).oneCell' = true ∧ R M e (v.cells.getD i undef) := by
  have one : v.oneCell' = true → cellsD d = [d] → v.cells.size = (cellsD d).length ∧ ∀ (i : Nat) e, (cellsD d)[i]? = some e → (v.cells.getD i undef).oneCell' = true ∧ R M e (v.cells.getD i undef) := by
    intro h1 h2
    rw [h2, Aw.cells_one h1]
    refine ⟨rfl, fun i e hi => ?_⟩
    cases i with
    | zero => simp at hi; subst hi; exact ⟨h1, h⟩
    | succ i => simp at hi
  cases h with
  | lit v h => exact one (lit_one h) rfl
  | agg l cs hs h1 h => exact ⟨hs, fun i e hi => ⟨h1 i e hi, h i e hi⟩⟩
  | pt => exact one rfl rfl
  | sl => exact one rfl rfl
  | fn => exact one rfl rfl
  | yl => exact one rfl rfl
  | ifc => exact one rfl rfl
  | em => exact one rfl rfl
  | one v h => exact one h rfl
  | tup => simp [okX] at hx
  | un => simp [okX] at hx
  | any => simp [okX] at hx
  | ow l n v ho => exact one ho.one rfl
  | sqn f sz a => exact one rfl rfl
  | sq f sz rows b off k c V hb hn hm hf hz h1 h2 => exact one rfl rfl
  | ps q row o b off c V hb hq h1 h2 => exact one rfl rfl
  | gd => simp [okX] at hx
  | con v h => exact one h rfl
  | mp => exact one rfl rfl

/-- What lies behind a name, where something does. -/
theorem RH.look {M : Mem} {h : H} {w : World} (hr : RH M h w) {l b : Nat} {k : Blk} (hg : h.hp.get l = some k) (ha : M.at l b) : ∃ c, M.μ l = .blk b c ∧ RB M w k b c := by
  have h2 := hr.hp l k hg
  cases hp : M.μ l with
  | dead => rw [hp] at h2; exact h2.elim
  | nil => exact absurd hp ha.2.2.1
  | res => exact absurd hp ha.2.2.2
  | blk n c =>
    rw [hp] at h2
    have := ha.2.1 n c hp
    subst this
    exact ⟨c, rfl, h2⟩

/-! ### Reading -/
def loadE (h : H) (ti : TI) : D → Option D
  | .pt l o => match h.hp.get l with
    | some (.cells _ _ ds) => bif Nat.ble (o + ti.size) ds.length && Nat.blt 0 ti.size then some (bif ti.agg then .agg ((ds.drop o).take ti.size) else (ds[o]?).getD .any) else none
    | _ => none
  | .ps _ row o => bif Nat.ble (o + ti.size) row.length && Nat.blt 0 ti.size then some (bif ti.agg then .agg ((row.drop o).take ti.size) else (row[o]?).getD .any) else none
  | _ => none

theorem load_ok {P : Program} {t : TypeId} {ti : TI} {i : TypeInfo} {d : TypeDesc} {z : Value} (ht : TIs P t ti i d z) {M : Mem} {h : H} {w : World} (hr : RH M h w) {x y : D} (he : loadE h ti x = some y)
    {v : Value} (hv : R M x v) : ∃ u, (Instr.loadAt t v).run P w = .ok u w ∧ R M y u := by
  unfold loadE at he
  cases hv with
  | pt l o b ha =>
    simp only at he
    split at he
    · rename_i ty op ds hds
      rw [cond_eq_ite] at he
      split at he
      · rename_i hc
        simp only [Bool.and_eq_true, Nat.ble_eq, Nat.blt_eq] at hc
        cases he
        obtain ⟨c, hl, cur, hc1, hc2, hc3⟩ := hr.look hds ha
        have hle : ds.length ≤ cur.size := by
          cases op with
          | none => simp only at hc2; omega
          | some sz => exact hc2.1
        have hcell : ∀ j, j < ti.size → w.cell? ⟨b, o + j, none⟩ = some (cur.getD (o + j) undef) := fun j hj => by
          have : o + j < cur.size := by omega
          simp [World.cell?, hc1, Array.getD, this]
        refine ⟨(if ti.agg then .agg ((List.range ti.size).map fun j => cur.getD (o + j) undef).toArray else cur.getD (o + 0) undef), ?_, ?_⟩
        · simp only [Instr.loadAt, Instr.sureAddr, Sem.run_bind, Sem.run_pure, Result.andThen_ok]
          exact run_loadVar_at ht w b o (fun j => cur.getD (o + j) undef) hcell (fun _ => hc.2)
        · cases hag : ti.agg with
          | true =>
            simp only [if_true, cond_true]
            refine .agg _ _ (by simp; omega) (fun k e hk => ?_) (fun k e hk => ?_)
            all_goals
              have hk' : k < ti.size := by
                have := (List.getElem?_eq_some_iff.1 hk).1
                simp at this
                omega
              have hd : ds[o + k]? = some e := by
                rw [List.getElem?_take_of_lt hk', List.getElem?_drop] at hk
                exact hk
              rw [toArray_getD _ k (cur.getD (o + k) undef) (by simp [hk'])]
            · exact (hc3 _ _ hd).1
            · exact (hc3 _ _ hd).2
          | false =>
            simp only [Bool.false_eq_true, if_false, Nat.add_zero, cond_false]
            have : ds[o]? = some ds[o] := List.getElem?_eq_getElem (by omega)
            rw [this]
            exact (hc3 _ _ this).2
      · cases he
    · cases he
  | ps q row o b off c V hb hq h1 h2 =>
    simp only at he
    rw [cond_eq_ite] at he
    split at he
    · rename_i hc
      simp only [Bool.and_eq_true, Nat.ble_eq, Nat.blt_eq] at hc
      cases he
      obtain ⟨ty, fr, hw⟩ := hr.inv.fz b c hb
      have hrow : ∀ j, j < row.length → w.cell? ⟨b, off + j, none⟩ = some (V j) := fun j hj => by
        have := (h1 j _ (List.getElem?_eq_getElem hj)).1
        simp [World.cell?, hw, this]
      have hcell : ∀ j, j < ti.size → w.cell? ⟨b, off + o + j, none⟩ = some (V (o + j)) := fun j hj => by
        rw [Nat.add_assoc]; exact hrow _ (by omega)
      refine ⟨(if ti.agg then .agg ((List.range ti.size).map fun j => V (o + j)).toArray else V (o + 0)), ?_, ?_⟩
      · simp only [Instr.loadAt, Instr.sureAddr, Sem.run_bind, Sem.run_pure, Result.andThen_ok]
        exact run_loadVar_at ht w b (off + o) (fun j => V (o + j)) hcell (fun _ => hc.2)
      · cases hag : ti.agg with
        | true =>
          simp only [if_true, cond_true]
          refine .agg _ _ (by simp; omega) (fun k e hk => ?_) (fun k e hk => ?_)
          all_goals
            have hk' : k < ti.size := by
              have := (List.getElem?_eq_some_iff.1 hk).1
              simp at this
              omega
            have hd : row[o + k]? = some e := by
              rw [List.getElem?_take_of_lt hk', List.getElem?_drop] at hk
              exact hk
            rw [toArray_getD _ k (V (o + k)) (by simp [hk'])]
          · exact (h1 _ _ hd).2
          · exact h2 _ _ hd
        | false =>
          simp only [Bool.false_eq_true, if_false, Nat.add_zero, cond_false]
          have : row[o]? = some row[o] := List.getElem?_eq_getElem (by omega)
          rw [this]
          exact h2 _ _ this
    · cases he
  | _ => cases he

/-! ### Writing -/
def storeE (h : H) (ti : TI) (d x : D) : Option H :=
  match d with
  | .pt l o => match h.hp.get l with
    | some (.cells ty op ds) => bif okX x && (Nat.beq (cellsD x).length ti.size && Nat.ble (o + ti.size) ds.length) then some { h with hp := h.hp.set l (.cells ty op (ds.take o ++ cellsD x ++ ds.drop (o + ti.size))) } else none
    | _ => none
  | _ => none

theorem store_ok {P : Program} {t : TypeId} {ti : TI} {i : TypeInfo} {d : TypeDesc} {z : Value} (ht : TIs P t ti i d z) {M : Mem} {h h' : H} {w : World} (hr : RH M h w) {x y : D} (he : storeE h ti x y = some h')
    {v u : Value} (hv : R M x v) (hu : R M y u) : ∃ w', (Instr.storeAt t v u).run P w = .ok () w' ∧ RH M h' w' ∧ Ext M w M w' := by
  unfold storeE at he
  cases hv with
  | pt l o b ha =>
    simp only at he
    split at he
    · rename_i ty op ds hds
      rw [cond_eq_ite] at he
      split at he
      · rename_i hcc
        simp only [Bool.and_eq_true, Nat.ble_eq] at hcc
        obtain ⟨hx, hlen, hle⟩ := hcc
        have hlen := Nat.eq_of_beq_eq_true hlen
        cases he
        obtain ⟨c, hl, cur, hc1, hc2, hc3⟩ := hr.look hds ha
        have hcs : ds.length ≤ cur.size := by
          cases op with
          | none => simp only at hc2; omega
          | some sz => exact hc2.1
        obtain ⟨e1, e2⟩ := hu.cells hx
        have hone : ∀ q ∈ u.cells.toList, q.oneCell' = true := by
          intro q hq
          obtain ⟨k, hk⟩ := List.getElem?_of_mem hq
          have hk2 : k < (cellsD y).length := by rw [← e1, ← Array.length_toList]; exact (List.getElem?_eq_some_iff.1 hk).1
          have := (e2 k _ (List.getElem?_eq_getElem hk2)).1
          rw [Array.getElem?_toList] at hk
          rwa [show u.cells.getD k undef = q by simp [Array.getD_eq_getD_getElem?, hk]] at this
        have hrun := run_storeVar_at ht w b o cur ty hc1 u (by omega) (by omega) hone
        have hb : RB M (w.setRow b (cur.toList.take o ++ u.cells.toList ++ cur.toList.drop (o + ti.size)).toArray) (.cells ty op (ds.take o ++ cellsD y ++ ds.drop (o + ti.size))) b c := by
          refine ⟨_, setRow_heap w b cur _ ty (0, 0) hc1, ?_, fun k e hk => ?_⟩
          · cases op with
            | none => simp only [List.size_toArray, List.length_append, List.length_take, List.length_drop, Array.length_toList] at hc2 ⊢; omega
            | some sz =>
              obtain ⟨q1, q2, q3⟩ := hc2
              refine ⟨?_, ?_, q3⟩
              · simp only [List.size_toArray, List.length_append, List.length_take, List.length_drop, Array.length_toList]; omega
              · rw [← q2]; simp only [List.size_toArray, List.length_append, List.length_take, List.length_drop, Array.length_toList]; omega
          · rw [getD_toArray_append3]
            rw [get_append3] at hk
            have m1 : min o ds.length = o := by omega
            have m2 : min o cur.size = o := by omega
            simp only [List.length_take, Array.length_toList, m1, m2, e1] at hk ⊢
            split
            · rename_i h1
              rw [if_pos h1, List.getElem?_take_of_lt h1] at hk
              have : (cur.toList.take o).getD k undef = cur.getD k undef := by simp [List.getD_eq_getElem?_getD, List.getElem?_take_of_lt h1, Array.getD_eq_getD_getElem?]
              rw [this]
              exact hc3 k e hk
            · rename_i h1
              rw [if_neg h1] at hk
              split
              · rename_i h2
                rw [if_pos h2] at hk
                have : u.cells.toList.getD (k - o) undef = u.cells.getD (k - o) undef := by simp [List.getD_eq_getElem?_getD, Array.getD_eq_getD_getElem?]
                rw [this]
                exact e2 _ e hk
              · rename_i h2
                rw [if_neg h2, List.getElem?_drop] at hk
                have : (cur.toList.drop (o + ti.size)).getD (k - o - (cellsD y).length) undef = cur.getD (o + ti.size + (k - o - (cellsD y).length)) undef := by simp [List.getD_eq_getElem?_getD, Array.getD_eq_getD_getElem?]
                rw [this]
                exact hc3 _ e hk
        obtain ⟨g1, g2⟩ := hr.write (w' := w.setRow b (cur.toList.take o ++ u.cells.toList ++ cur.toList.drop (o + ti.size)).toArray) hl (.cells ty op (ds.take o ++ cellsD y ++ ds.drop (o + ti.size))) rfl rfl rfl (by simp)
          (fun n hn => setRow_other w b n _ (fun e => hn e)) hb
        refine ⟨_, ?_, g1, g2⟩
        simp only [Instr.storeAt, Instr.sureAddr, Sem.run_bind, Sem.run_pure, Result.andThen_ok]
        exact hrun
      · cases he
    · cases he
  | _ => cases he

/-! ### New variables -/
theorem new_cells {P : Program} {M : Mem} {h : H} {w : World} (hr : RH M h w) (t : TypeId) (c : Array Value) (ds : List D) (h1 : c.size = ds.length)
    (h2 : ∀ (i : Nat) e, ds[i]? = some e → (c.getD i undef).oneCell' = true ∧ R M e (c.getD i undef)) :
    ∃ M', (newRow t c).run P w = .ok ⟨w.heap.size, 0, none⟩ (w.alloc (.cells c t)) ∧ RH M' { hp := h.hp.set h.nx (.cells t none ds), nx := h.nx + 1 } (w.alloc (.cells c t)) ∧
      R M' (.pt h.nx 0) (.pointer (some ⟨w.heap.size, 0, none⟩)) ∧ Ext M w M' (w.alloc (.cells c t)) := by
  obtain ⟨g1, g2⟩ := hr.fresh (w' := w.alloc (.cells c t)) (.cells t none ds) w.heap.size 0 rfl rfl rfl (by simp) (fun n hn => halloc_old w _ n hn) (by simp)
    (fun hle => ⟨c, halloc_new w _, h1, fun i e he => ⟨(h2 i e he).1, (h2 i e he).2.mono hle⟩⟩)
  exact ⟨_, rfl, g1, .pt _ _ _ ⟨by simp [Mem.set], fun b' c' e => by simp [Mem.set] at e; exact e.1.symm, by simp [Mem.set]⟩, g2⟩

def boxE (h : H) (t : TypeId) (x : D) : Option (D × H) :=
  bif okX x then some (.pt h.nx 0, { hp := h.hp.set h.nx (.cells t none (cellsD x)), nx := h.nx + 1 }) else none

theorem box_ok {P : Program} {M : Mem} {h h' : H} {w : World} (hr : RH M h w) {t : TypeId} {x y : D} {v : Value} (hv : R M x v) (he : boxE h t x = some (y, h')) :
    ∃ u w' M', (Instr.box t v).run P w = .ok u w' ∧ RH M' h' w' ∧ R M' y u ∧ Ext M w M' w' := by
  unfold boxE at he
  cases hx : okX x with
  | false => rw [hx] at he; cases he
  | true =>
    rw [hx] at he
    cases he
    obtain ⟨h1, h2⟩ := hv.cells hx
    obtain ⟨M', g1, g2, g3, g4⟩ := new_cells (P := P) hr t v.cells (cellsD x) h1 h2
    exact ⟨_, _, M', by simp only [Instr.box, newVar, Sem.run_bind, g1, Result.andThen_ok, Sem.run_pure], g2, g3, g4⟩

def zD (z : Z) : D := .lit z.val

theorem zeros_get {P : Program} {t : TypeId} {ti : TI} {i : TypeInfo} {d : TypeDesc} {z : Value} (ht : TIs P t ti i d z) (M : Mem) :
    z.cells.size = (ti.z.map zD).length ∧ ∀ (i : Nat) e, (ti.z.map zD)[i]? = some e → (z.cells.getD i undef).oneCell' = true ∧ R M e (z.cells.getD i undef) := by
  have hc := ht.cells
  refine ⟨by rw [← Array.length_toList, hc]; simp, fun i e he => ?_⟩
  rw [List.getElem?_map, Option.map_eq_some_iff] at he
  obtain ⟨y, hy, rfl⟩ := he
  have : z.cells.getD i undef = y.val := by rw [← getD_list, hc]; simp [List.getD_eq_getElem?_getD, hy]
  rw [this]
  exact ⟨zval_one y, .lit _ (zval_ok y)⟩

def allocE (h : H) (t : TypeId) (ti : TI) : D × H := (.pt h.nx 0, { hp := h.hp.set h.nx (.cells t none (ti.z.map zD)), nx := h.nx + 1 })

theorem alloc_ok {P : Program} {t : TypeId} {ti : TI} {i : TypeInfo} {d : TypeDesc} {z : Value} (ht : TIs P t ti i d z) {M : Mem} {h : H} {w : World} (hr : RH M h w) :
    ∃ u w' M', (Instr.alloc t true (.tuple #[])).run P w = .ok u w' ∧ RH M' (allocE h t ti).2 w' ∧ R M' (allocE h t ti).1 u ∧ Ext M w M' w' := by
  obtain ⟨h1, h2⟩ := zeros_get ht M
  obtain ⟨M', g1, g2, g3, g4⟩ := new_cells (P := P) hr t z.cells (ti.z.map zD) h1 h2
  refine ⟨_, _, M', ?_, g2, g3, g4⟩
  simp [Instr.alloc, zeroValue, typeInfo, ht.info, ht.zero, newVar, g1]

/-! ### A value of parts -/
def fillD (place : Nat → Option (Nat × Nat)) : List D → List (Nat × D) → Option (List D)
  | cells, [] => some cells
  | cells, (i, d) :: rest =>
    match place i with
    | none => none
    | some (off, size) => bif okX d && (Nat.beq (cellsD d).length size && Nat.ble (off + size) cells.length) then fillD place (cells.take off ++ cellsD d ++ cells.drop (off + size)) rest else none

theorem fill_ok {M : Mem} (place : Nat → Option (Nat × Nat)) : ∀ (parts : List (Nat × D)) (vs : List (Nat × Value)) (ds : List D) (cs : Array Value) (out : List D),
    fillD place ds parts = some out → parts.length = vs.length → (∀ (j : Nat) p q, parts[j]? = some p → vs[j]? = some q → q.1 = p.1 ∧ R M p.2 q.2) →
    cs.size = ds.length → (∀ (i : Nat) e, ds[i]? = some e → (cs.getD i undef).oneCell' = true ∧ R M e (cs.getD i undef)) →
    ∃ res, Instr.fill place cs vs = some res ∧ res.size = out.length ∧ out.length = ds.length ∧ ∀ (i : Nat) e, out[i]? = some e → (res.getD i undef).oneCell' = true ∧ R M e (res.getD i undef)
  | [], [], ds, cs, out, h, _, _, h1, h2 => by
    simp only [fillD, Option.some.injEq] at h
    subst h
    exact ⟨cs, rfl, h1, rfl, h2⟩
  | [], _ :: _, _, _, _, _, h, _, _, _ => by simp at h
  | _ :: _, [], _, _, _, _, h, _, _, _ => by simp at h
  | (i, d) :: parts, (i', v) :: vs, ds, cs, out, h, hl, hp, h1, h2 => by
    obtain ⟨e1, hv⟩ := hp 0 _ _ rfl rfl
    simp only at e1 hv
    subst e1
    simp only [fillD] at h
    split at h
    · cases h
    · rename_i off size hpl
      rw [cond_eq_ite] at h
      split at h
      · rename_i hc
        simp only [Bool.and_eq_true, Nat.ble_eq] at hc
        obtain ⟨hx, hlen, hle⟩ := hc
        have hlen := Nat.eq_of_beq_eq_true hlen
        obtain ⟨g1, g2⟩ := hv.cells hx
        have hvs : v.cells.size = size := by omega
        have hsz : ((v.cells.toList.zipIdx 0).foldl (fun (cs : Array Value) (p : Value × Nat) => cs.setIfInBounds (off + p.2) p.1) cs).toList = cs.toList.take off ++ v.cells.toList ++ cs.toList.drop (off + size) := by
          have := fill_fold off v.cells.toList 0 cs (by simp; omega)
          simpa [hvs] using this
        have hfold : v.cells.zipIdx.foldl (fun (cs : Array Value) (p : Value × Nat) => cs.setIfInBounds (off + p.2) p.1) cs = (cs.toList.take off ++ v.cells.toList ++ cs.toList.drop (off + size)).toArray := by
          apply Array.ext'
          rw [← hsz, ← Array.foldl_toList, Array.toList_zipIdx]
        obtain ⟨res, r1, r2, r4, r3⟩ := fill_ok place parts vs _ (cs.toList.take off ++ v.cells.toList ++ cs.toList.drop (off + size)).toArray out h (by simpa using hl) (fun j p q hj hq => hp (j + 1) p q (by simpa using hj) (by simpa using hq))
          (by simp only [List.size_toArray, List.length_append, List.length_take, List.length_drop, Array.length_toList]; omega) (fun k e hk => by
            rw [splice_get _ _ _ _ _ hlen hle] at hk
            have : (cs.toList.take off ++ v.cells.toList ++ cs.toList.drop (off + size)).toArray.getD k undef = if off ≤ k ∧ k < off + size then v.cells.getD (k - off) undef else cs.getD k undef := by
              rw [Array.getD_eq_getD_getElem?, List.getElem?_toArray, splice_get _ _ _ _ _ (by simpa using hvs) (by simp; omega)]
              split <;> simp [Array.getD_eq_getD_getElem?]
            rw [this]
            split
            · rename_i hin; rw [if_pos hin] at hk; exact g2 _ e hk
            · rename_i hin; rw [if_neg hin] at hk; exact h2 _ e hk)
        refine ⟨res, ?_, r2, by rw [r4]; simp only [List.length_append, List.length_take, List.length_drop]; omega, r3⟩
        simp only [Instr.fill, hpl]
        rw [if_neg (by simp; omega)]
        rw [hfold]
        exact r1
      · cases h

def placeE (P : Program) (t : TypeId) (ti : TI) : Option (Nat → Option (Nat × Nat)) :=
  match ti.k with
  | .arr _ e => (tiOf P e).map fun te => fun i => some (i * te.size, te.size)
  | .st _ => (plOf P t).map fun l => fun i => l[i]?
  | _ => none

def buildE (P : Program) (t : TypeId) (parts : List (Nat × D)) : Option D :=
  match tiOf P t with
  | some ti => (match placeE P t ti with
    | some pl => (fillD pl (ti.z.map zD) parts).map .agg
    | none => none)
  | none => none

theorem build_ok {P : Program} {t : TypeId} {M : Mem} {w : World} {parts : List (Nat × D)} {vs : Array (Nat × Value)} {y : D} (h : buildE P t parts = some y) (hl : parts.length = vs.size)
    (hp : ∀ (j : Nat) p q, parts[j]? = some p → vs[j]? = some q → q.1 = p.1 ∧ R M p.2 q.2) : ∃ u, (Instr.build t vs).run P w = .ok u w ∧ R M y u := by
  unfold buildE at h
  split at h
  case h_2 => cases h
  rename_i ti hti
  split at h
  case h_2 => cases h
  rename_i pl hpl
  simp only [Option.map_eq_some_iff] at h
  obtain ⟨l, hf, rfl⟩ := h
  obtain ⟨i, d, z, ht⟩ := tiOf_spec hti
  obtain ⟨h1, h2⟩ := zeros_get ht M
  obtain ⟨res, r1, r2, _, r3⟩ := fill_ok pl parts vs.toList _ z.cells l hf (by simpa using hl) (fun j p q hj hq => hp j p q hj (by simpa using hq)) h1 h2
  refine ⟨_, run_build w t vs res ?_, .agg _ _ r2 (fun k e hk => (r3 k e hk).1) (fun k e hk => (r3 k e hk).2)⟩
  have hk := ht.k
  unfold Program.built
  simp only [ht.info, ht.und]
  unfold placeE at hpl
  cases hd : d
  case array n e =>
    have hka : ti.k = .arr n e := by rw [hk, hd]; rfl
    simp only [hka, Option.map_eq_some_iff] at hpl
    obtain ⟨te, hte, rfl⟩ := hpl
    obtain ⟨ie, de, ze, hte'⟩ := tiOf_spec hte
    simp only [ht.zero, hte'.info, hte'.size]
    exact r1
  case struct fs =>
    have hks : ti.k = .st (fs.toList.map fun f => (f.offset, f.type)) := by rw [hk, hd]; rfl
    simp only [hks, Option.map_eq_some_iff] at hpl
    obtain ⟨pls, hpo, rfl⟩ := hpl
    have hpo' : fs.toList.mapM (fun f => (P.info? f.type).map fun i => (f.offset, i.size)) = some pls := by
      simpa [plOf, ht.und, hd] using hpo
    simp only [ht.zero, hpo', List.getElem?_toArray]
    exact r1
  all_goals
    rw [hk, hd] at hpl
    simp [kOf] at hpl
end Go.Ev
