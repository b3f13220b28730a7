/-
  The operations that a region of code is made of, one by one: what they do to an abstract state, and that the machine does so.
-/
import Derived.Test.YtgpmcnakeeahbabGreatAwB
namespace Go.Aw

/-! ### An operation -/
/-- The operation comes to a value and a state of which K holds, or ends in a panic and a state of which Kp holds. -/
def OpW (P : Program) (r : Option Nat) (o : Oper) (K Kp : D → St → Prop) (s : St) : Prop :=
  ∀ M w a, Rep M s w a → ∀ (next : Act → World → Prop) (Q : Exit → Act → World → Prop),
    (∀ M' s' w' v d, Rep M' s' w' a → R M' w' d v → Ext M w M' w' → K d s' → next (a.put o.dst v) w') →
    (∀ M' s' w' v d, Rep M' s' w' a → R M' w' d v → Ext M w M' w' → Kp d s' → Q (.panic [{ v := v, recovered := false }]) a w') →
    o.wpIn (WF r) 0 P a w next Q

theorem opw_run {P : Program} {r : Option Nat} {o : Oper} {K Kp : D → St → Prop} {s : St} (hnd : ∀ c, o.op ≠ .defer c)
    (h : ∀ M w a, Rep M s w a → ∃ v w' M' s' d, ((execOp a.eval o).run P w = .ok (.value v) w' ∨ ((execOp a.eval o).run P w = .ok .skip w' ∧ v = undef)) ∧ Rep M' s' w' a ∧ R M' w' d v ∧ Ext M w M' w' ∧ K d s') :
    OpW P r o K Kp s := by
  intro M w a hr next Q hK _
  obtain ⟨v, w', M', s', d, hrun, h1, h2, h3, h4⟩ := h M w a hr
  refine ⟨fun _ _ => trivial, ?_⟩
  have hsem : o.semAt (WF r).round a.eval = execOp a.eval o := by
    unfold Oper.semAt
    split
    · rename_i c _ hc; exact absurd hc (hnd _)
    · rfl
  rw [hsem]
  rcases hrun with hrun | ⟨hrun, rfl⟩
  · rw [hrun]; exact hK M' s' w' v d h1 h2 h3 h4
  · rw [hrun]; exact hK M' s' w' undef d h1 h2 h3 h4

/-- An operation that leaves memory as it is. -/
theorem opw_pure {P : Program} {r : Option Nat} {o : Oper} {K Kp : D → St → Prop} {s : St} (hnd : ∀ c, o.op ≠ .defer c) (d : D) (hK : K d s)
    (h : ∀ M w a, Rep M s w a → ∃ v, (execOp a.eval o).run P w = .ok (.value v) w ∧ R M w d v) : OpW P r o K Kp s :=
  opw_run hnd fun M w a hr => let ⟨v, h1, h2⟩ := h M w a hr; ⟨v, w, M, s, d, .inl h1, hr, h2, Ext.refl M w, hK⟩

theorem addr_add (b o n : Nat) : (⟨b, o, none⟩ : Addr).add n = ⟨b, o + n, none⟩ := Addr.add_lit b o n

/-! ### Values as rows of cells -/
def cellsD : D → List D
  | .agg l => l
  | .i (.agg l) => l.map .i
  | d => [d]

def okX : D → Bool
  | .any => false
  | .un => false
  | .tup _ => false
  | _ => true

theorem RI.oneCell {w : World} {S : Nat → Prop} {x : I} {v : Value} (h : RI w S x v) (hx : ∀ l, x ≠ .agg l) : v.oneCell' = true := by
  cases h with
  | lit v h => cases v <;> simp_all [litOk, Value.oneCell']
  | nil => rfl
  | sl => rfl
  | agg l cs => exact absurd rfl (hx l)
  | ifc => rfl

theorem cells_one {v : Value} (h : v.oneCell' = true) : v.cells = #[v] := by cases v <;> simp_all [Value.oneCell', Value.cells]

theorem R.cells {M : Mem} {w : World} {d : D} {v : Value} (h : R M w d v) (hx : okX d = true) :
    v.cells.size = (cellsD d).length ∧ ∀ i e, (cellsD d)[i]? = some e → (v.cells.getD i undef).oneCell' = true ∧ R M w e (v.cells.getD i undef) := by
  have one : v.oneCell' = true → cellsD d = [d] → v.cells.size = (cellsD d).length ∧ ∀ i e, (cellsD d)[i]? = some e → (v.cells.getD i undef).oneCell' = true ∧ R M w e (v.cells.getD i undef) := by
    intro h1 h2
    rw [h2, cells_one h1]
    refine ⟨rfl, fun i e hi => ?_⟩
    cases i with
    | zero => simp at hi; subst hi; exact ⟨h1, h⟩
    | succ i => simp at hi
  cases h with
  | i x v h =>
    cases x with
    | agg l =>
      cases h with
      | agg l cs hs h1 h =>
        refine ⟨by show cs.size = (l.map D.i).length; simpa using hs, fun i e hi => ?_⟩
        simp only [cellsD, List.getElem?_map, Option.map_eq_some_iff] at hi
        obtain ⟨x, hx, rfl⟩ := hi
        exact ⟨h1 i x hx, .i _ _ (h i x hx)⟩
    | lit v => exact one (h.oneCell (by simp)) rfl
    | sl => exact one (h.oneCell (by simp)) rfl
    | ifc => exact one (h.oneCell (by simp)) rfl
  | agg l cs hs h1 h => exact ⟨hs, fun i e hi => ⟨h1 i e hi, h i e hi⟩⟩
  | pt => exact one rfl rfl
  | el => exact one rfl rfl
  | ea => exact one rfl rfl
  | os l v h hv => exact one hv rfl
  | fn => exact one rfl rfl
  | yl => exact one rfl rfl
  | ifc => exact one rfl rfl
  | tup => simp [okX] at hx
  | un => simp [okX] at hx
  | any => simp [okX] at hx

/-! ### Reading memory -/
theorem run_isAgg {P : Program} {t : TypeId} {ti : TI} {i : TypeInfo} {d : TypeDesc} {z : Value} (h : TIs P t ti i d z) (w : World) : (isAgg t).run P w = .ok ti.agg w := by
  unfold isAgg
  rw [Sem.run_bind, run_underlying h.und]
  simp only [Result.andThen_ok, TI.agg, h.k]
  cases d <;> rfl

theorem run_sizeOf {P : Program} {t : TypeId} {ti : TI} {i : TypeInfo} {d : TypeDesc} {z : Value} (h : TIs P t ti i d z) (w : World) : (sizeOf t).run P w = .ok ti.size w := by
  simp [sizeOf, typeInfo, h.info, h.size]

theorem run_loadVar_at {P : Program} {t : TypeId} {ti : TI} {i : TypeInfo} {d : TypeDesc} {z : Value} (h : TIs P t ti i d z) (w : World) (b off : Nat) (f : Nat → Value)
    (hf : ∀ j, j < ti.size → w.cell? ⟨b, off + j, none⟩ = some (f j)) (h1 : ti.agg = false → 0 < ti.size) :
    (loadVar t ⟨b, off, none⟩).run P w = .ok (if ti.agg then .agg ((List.range ti.size).map f).toArray else f 0) w := by
  unfold loadVar
  rw [Sem.run_bind, run_isAgg h]
  simp only [Result.andThen_ok]
  cases ha : ti.agg with
  | true =>
    simp only [if_true, Sem.run_bind, run_sizeOf h, Result.andThen_ok]
    rw [run_loadCells (P := P) w ⟨b, off, none⟩ ti.size f (fun j hj => by rw [addr_add]; exact hf j hj)]
    simp
  | false =>
    have := hf 0 (h1 ha)
    simp only [Nat.add_zero] at this
    simp [run_load, this]

def loadP (s : St) (ti : TI) (d : D) (K : D → Prop) : Prop :=
  match d with
  | .pt l o => (match hlook s.hp l with
    | some (.cells _ ds) => o + ti.size ≤ ds.length ∧ 0 < ti.size ∧ K (if ti.agg then .agg ((ds.drop o).take ti.size) else (ds[o]?).getD .any)
    | _ => False)
  | .el row o => o + ti.size ≤ row.length ∧ 0 < ti.size ∧ K (if ti.agg then .agg (((row.drop o).take ti.size).map .i) else ((row[o]?).map .i).getD .any)
  | .ea l sz i o => (match hlook s.hp l with
    | some (.arr _ sz' rows) => sz' = sz ∧ i < rows.length ∧ o + ti.size ≤ sz ∧ 0 < ti.size ∧
        K (if ti.agg then .agg ((((rows.getD i []).drop o).take ti.size).map .i) else (((rows.getD i [])[o]?).map .i).getD .any)
    | _ => False)
  | _ => False

theorem toArray_getD (l : List Value) (i : Nat) (v : Value) (h : l[i]? = some v) : l.toArray.getD i undef = v := by
  simp [Array.getD_eq_getD_getElem?, h]

theorem load_ok {P : Program} {t : TypeId} {ti : TI} {i : TypeInfo} {d : TypeDesc} {z : Value} (ht : TIs P t ti i d z) {M : Mem} {s : St} {w : World} {a : Act} (hr : Rep M s w a) {x : D} {K : D → Prop} (h : loadP s ti x K)
    {v : Value} (hv : R M w x v) : ∃ y u, (Instr.loadAt t v).run P w = .ok u w ∧ R M w y u ∧ K y := by
  unfold loadP at h
  cases hv with
  | pt l b o hl =>
    simp only at h
    split at h
    · rename_i ty ds hds
      obtain ⟨h1, h0, h2⟩ := h
      have hb := hr.hp l _ hds
      rw [hl] at hb
      obtain ⟨c, hc1, hc2, hc3⟩ := hb
      have hcell : ∀ j, j < ti.size → w.cell? ⟨b, o + j, none⟩ = some (c.getD (o + j) undef) := fun j hj => by
        have : o + j < c.size := by omega
        simp [World.cell?, hc1, Array.getD, this]
      refine ⟨_, (if ti.agg then .agg ((List.range ti.size).map fun j => c.getD (o + j) undef).toArray else c.getD (o + 0) undef), ?_, ?_, h2⟩
      · simp only [Instr.loadAt, Instr.sureAddr, Sem.run_bind, Sem.run_pure, Result.andThen_ok]
        exact run_loadVar_at ht w b o (fun j => c.getD (o + j) undef) hcell (fun _ => h0)
      · cases ha : ti.agg with
        | true =>
          simp only [if_true]
          refine .agg _ _ (by simp; omega) (fun k e hk => ?_) (fun k e hk => ?_)
          all_goals
            have hk' : k < ti.size := by
              have := (List.getElem?_eq_some_iff.1 hk).1
              simp at this
              omega
            have hd : ds[o + k]? = some e := by
              rw [List.getElem?_take_of_lt hk', List.getElem?_drop] at hk
              exact hk
            rw [toArray_getD _ k (c.getD (o + k) undef) (by simp [hk'])]
          · exact (hc3 _ _ hd).1
          · exact (hc3 _ _ hd).2
        | false =>
          simp only [Bool.false_eq_true, if_false, Nat.add_zero]
          have : ds[o]? = some ds[o] := List.getElem?_eq_getElem (by omega)
          rw [this]
          exact (hc3 _ _ this).2
    · exact h.elim
  | el row o b off V hb h1 h2 =>
    simp only at h
    obtain ⟨g1, g0, g2⟩ := h
    have hget : ∀ j, j < ti.size → ∃ x, row[o + j]? = some x := fun j hj => ⟨_, List.getElem?_eq_getElem (show o + j < row.length by omega)⟩
    refine ⟨_, (if ti.agg then .agg ((List.range ti.size).map fun j => V (o + j)).toArray else V (o + 0)), ?_, ?_, g2⟩
    · simp only [Instr.loadAt, Instr.sureAddr, Sem.run_bind, Sem.run_pure, Result.andThen_ok]
      exact run_loadVar_at ht w b (off + o) (fun j => V (o + j)) (fun j hj => by
        obtain ⟨x, hx⟩ := hget j hj
        rw [Nat.add_assoc]
        exact (h1 _ _ hx).1) (fun _ => g0)
    · cases ha : ti.agg with
      | true =>
        simp only [if_true]
        refine .agg _ _ (by simp; omega) (fun k e hk => ?_) (fun k e hk => ?_)
        all_goals
          rw [List.getElem?_map, Option.map_eq_some_iff] at hk
          obtain ⟨e, hk, rfl⟩ := hk
          have hk' : k < ti.size := by
            have := (List.getElem?_eq_some_iff.1 hk).1
            simp at this
            omega
          have hd : row[o + k]? = some e := by
            rw [List.getElem?_take_of_lt hk', List.getElem?_drop] at hk
            exact hk
          rw [toArray_getD _ k (V (o + k)) (by simp [hk'])]
        · exact (h1 _ _ hd).2
        · exact .i _ _ (h2 _ _ hd)
      | false =>
        simp only [Bool.false_eq_true, if_false, Nat.add_zero]
        obtain ⟨x, hx⟩ := hget 0 g0
        simp only [Nat.add_zero] at hx
        rw [hx]
        exact .i _ _ (h2 _ _ hx)
  | ea l sz j o v b hl hb =>
    simp only at h
    split at h
    · rename_i ty sz' rows hds
      obtain ⟨rfl, h1, h2, h0, h3⟩ := h
      have hbb := hr.hp l _ hds
      rw [hl] at hbb
      obtain ⟨xs, ho, hz, hx⟩ := hbb
      have hrow : rows[j]? = some rows[j] := List.getElem?_eq_getElem h1
      have hlen : (rows[j]).length = sz' := hz _ (List.getElem_mem h1)
      have hD : rows.getD j [] = rows[j] := by simp [List.getD, hrow]
      rw [hD] at h3
      have hget : ∀ k, k < ti.size → ∃ x u, (rows[j])[o + k]? = some x ∧ xs[j * sz' + (o + k)]? = some u ∧ u.oneCell' = true ∧ RI w M.S x u := fun k hk => by
        have hx1 : (rows[j])[o + k]? = some (rows[j])[o + k] := List.getElem?_eq_getElem (by omega)
        obtain ⟨u, a1, a2, a3⟩ := hx j _ _ _ hrow hx1
        exact ⟨_, u, hx1, a1, a2, a3⟩
      refine ⟨_, (if ti.agg then .agg ((List.range ti.size).map fun k => xs.getD (j * sz' + (o + k)) undef).toArray else xs.getD (j * sz' + (o + 0)) undef), ?_, ?_, h3⟩
      · simp only [Instr.loadAt, Instr.sureAddr, Sem.run_bind, Sem.run_pure, Result.andThen_ok]
        exact run_loadVar_at ht w b (j * sz' + o) (fun k => xs.getD (j * sz' + (o + k)) undef) (fun k hk => by
          obtain ⟨x, u, _, b2, _, _⟩ := hget k hk
          have := ho.cells hb _ _ b2
          rw [addr_add, Nat.zero_add] at this
          rw [Nat.add_assoc, this]
          simp [List.getD, b2]) (fun _ => h0)
      · cases ha : ti.agg with
        | true =>
          simp only [if_true]
          refine .agg _ _ (by simp; omega) (fun k e hk => ?_) (fun k e hk => ?_)
          all_goals
            rw [List.getElem?_map, Option.map_eq_some_iff] at hk
            obtain ⟨e, hk, rfl⟩ := hk
            have hk' : k < ti.size := by
              have := (List.getElem?_eq_some_iff.1 hk).1
              simp at this
              omega
            have hd : (rows[j])[o + k]? = some e := by
              rw [List.getElem?_take_of_lt hk', List.getElem?_drop] at hk
              exact hk
            obtain ⟨x, u, b1, b2, b3, b4⟩ := hget k hk'
            rw [b1] at hd
            cases hd
            rw [toArray_getD _ k u (by simp [hk', List.getD, b2])]
          · exact b3
          · exact .i _ _ b4
        | false =>
          simp only [Bool.false_eq_true, if_false, Nat.add_zero]
          obtain ⟨x, u, b1, b2, b3, b4⟩ := hget 0 h0
          simp only [Nat.add_zero] at b1 b2
          rw [b1]
          simp only [List.getD, b2]
          exact .i _ _ b4
    · exact h.elim
  | _ => exact h.elim

end Go.Aw
