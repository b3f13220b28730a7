/-
  Operations that write memory, and that make it.
-/
import Derived.Test.YtgpmcnakeeahbabGreatAwC
namespace Go.Aw

theorem run_storeVar_at {P : Program} {t : TypeId} {ti : TI} {i : TypeInfo} {d : TypeDesc} {z : Value} (h : TIs P t ti i d z) (w : World) (b off : Nat) (c : Array Value) (ty : TypeId)
    (hb : w.heap[b]? = some (.cells c ty (0, 0))) (v : Value) (hv : v.cells.size = ti.size) (hs : off + ti.size ≤ c.size) (h1 : ∀ u ∈ v.cells.toList, u.oneCell' = true) :
    (storeVar t ⟨b, off, none⟩ v).run P w = .ok () (w.setRow b (c.toList.take off ++ v.cells.toList ++ c.toList.drop (off + ti.size)).toArray) := by
  unfold storeVar
  rw [Sem.run_bind, run_sizeOf h]
  simp only [Result.andThen_ok]
  rw [if_neg (by simpa using hv)]
  have := run_storeCells_at P b off ty v.cells.toList 0 c w hb (by simp; omega) h1
  simp only [Nat.add_zero, Array.length_toList, hv] at this
  exact this

theorem setRow_turns {M : Mem} {l : Loc} {w : World} {b : Nat} (cs : Array Value) (hb : (M.μ l).has b) : Turns M l w (w.setRow b cs) :=
  ⟨rfl, rfl, rfl, by simp, fun n _ hn => setRow_other w b n cs (fun e => hn (e ▸ hb))⟩

/-- The cells of immutable data, if all are. -/
def asIs : List D → Option (List I)
  | [] => some []
  | .i x :: r => (asIs r).map (x :: ·)
  | _ :: _ => none

def rowOf : D → Option (List I)
  | .agg l => asIs l
  | .i (.agg l) => some l
  | .i x => some [x]
  | _ => none

theorem asIs_get : ∀ (l : List D) (r : List I), asIs l = some r → l = r.map .i
  | [], r, h => by simp [asIs] at h; subst h; rfl
  | .i x :: l, r, h => by
    simp only [asIs, Option.map_eq_some_iff] at h
    obtain ⟨r', h', rfl⟩ := h
    simp [asIs_get l r' h']
  | .agg _ :: _, _, h => by simp [asIs] at h
  | .pt _ _ :: _, _, h => by simp [asIs] at h
  | .el _ _ :: _, _, h => by simp [asIs] at h
  | .ea _ _ _ _ :: _, _, h => by simp [asIs] at h
  | .os _ :: _, _, h => by simp [asIs] at h
  | .fn _ _ _ :: _, _, h => by simp [asIs] at h
  | .yl _ :: _, _, h => by simp [asIs] at h
  | .ifc _ _ :: _, _, h => by simp [asIs] at h
  | .tup _ :: _, _, h => by simp [asIs] at h
  | .un :: _, _, h => by simp [asIs] at h
  | .any :: _, _, h => by simp [asIs] at h

theorem rowOf_cells {d : D} {r : List I} (h : rowOf d = some r) : cellsD d = r.map .i ∧ okX d = true := by
  cases d with
  | agg l => exact ⟨asIs_get l r h, rfl⟩
  | i x => cases x <;> simp_all [rowOf, cellsD, okX] <;> (subst h; rfl)
  | _ => simp [rowOf] at h

/-- A value's cells, as a row of immutable data. -/
theorem R.row {M : Mem} {w : World} {d : D} {v : Value} (h : R M w d v) {r : List I} (hr : rowOf d = some r) :
    v.cells.size = r.length ∧ ∀ j x, r[j]? = some x → (v.cells.getD j undef).oneCell' = true ∧ RI w M.S x (v.cells.getD j undef) := by
  obtain ⟨hc, hk⟩ := rowOf_cells hr
  obtain ⟨h1, h2⟩ := h.cells hk
  rw [hc] at h1 h2
  refine ⟨by simpa using h1, fun j x hx => ?_⟩
  obtain ⟨a1, a2⟩ := h2 j (.i x) (by simp [hx])
  refine ⟨a1, ?_⟩
  cases a2
  assumption

def storeP (s : St) (ti : TI) (d x : D) (K : St → Prop) : Prop :=
  match d with
  | .pt l o => (match hlook s.hp l with
    | some (.cells ty ds) => okX x = true ∧ (cellsD x).length = ti.size ∧ o + ti.size ≤ ds.length ∧ K { s with hp := hupd s.hp l (.cells ty (ds.take o ++ cellsD x ++ ds.drop (o + ti.size))) }
    | _ => False)
  | .ea l sz i o => (match hlook s.hp l with
    | some (.arr ty sz' rows) => (match rowOf x with
      | some r => sz' = sz ∧ i < rows.length ∧ r.length = ti.size ∧ o + ti.size ≤ sz ∧
          K { s with hp := hupd s.hp l (.arr ty sz (rows.set i ((rows.getD i []).take o ++ r ++ (rows.getD i []).drop (o + ti.size)))) }
      | none => False)
    | _ => False)
  | _ => False

theorem getD_toArray_append3 (a b c : List Value) (i : Nat) : (a ++ b ++ c).toArray.getD i undef = if i < a.length then a.getD i undef else if i < a.length + b.length then b.getD (i - a.length) undef else c.getD (i - a.length - b.length) undef := by
  simp only [Array.getD_eq_getD_getElem?, List.getElem?_toArray, List.getD_eq_getElem?_getD]
  split
  · rename_i h
    rw [List.append_assoc, List.getElem?_append_left h]
  · rename_i h
    split
    · rename_i h2
      rw [List.append_assoc, List.getElem?_append_right (by omega), List.getElem?_append_left (by omega)]
    · rename_i h2
      rw [List.getElem?_append_right (by simp; omega)]
      simp [Nat.sub_sub]

theorem get_append3 {α : Type} (a b c : List α) (i : Nat) : (a ++ b ++ c)[i]? = if i < a.length then a[i]? else if i < a.length + b.length then b[i - a.length]? else c[i - a.length - b.length]? := by
  split
  · rename_i h
    rw [List.append_assoc, List.getElem?_append_left h]
  · rename_i h
    split
    · rename_i h2
      rw [List.append_assoc, List.getElem?_append_right (by omega), List.getElem?_append_left (by omega)]
    · rename_i h2
      rw [List.getElem?_append_right (by simp; omega)]
      simp [Nat.sub_sub]

theorem splice_get {α : Type} (L news : List α) (off k m : Nat) (hm : news.length = m) (h : off + m ≤ L.length) :
    (L.take off ++ news ++ L.drop (off + m))[k]? = if off ≤ k ∧ k < off + m then news[k - off]? else L[k]? := by
  subst hm
  rw [get_append3, List.length_take, Nat.min_eq_left (by omega)]
  by_cases h1 : k < off
  · rw [if_pos h1, if_neg (by omega), List.getElem?_take_of_lt h1]
  · rw [if_neg h1]
    by_cases h2 : k < off + news.length
    · rw [if_pos h2, if_pos ⟨by omega, h2⟩]
    · rw [if_neg h2, if_neg (by omega), List.getElem?_drop]
      congr 1
      omega

theorem store_ok {P : Program} {t : TypeId} {ti : TI} {i : TypeInfo} {d : TypeDesc} {z : Value} (ht : TIs P t ti i d z) {M : Mem} {s : St} {w : World} {a : Act} (hr : Rep M s w a) {x y : D} {K : St → Prop} (h : storeP s ti x y K)
    {v u : Value} (hv : R M w x v) (hu : R M w y u) : ∃ w' s', (Instr.storeAt t v u).run P w = .ok () w' ∧ Rep M s' w' a ∧ Ext M w M w' ∧ K s' := by
  unfold storeP at h
  cases hv with
  | pt l b o hl =>
    simp only at h
    split at h
    · rename_i ty ds hds
      obtain ⟨hx, hlen, hle, hK⟩ := h
      have hb := hr.hp l _ hds
      rw [hl] at hb
      obtain ⟨c, hc1, hc2, hc3⟩ := hb
      obtain ⟨e1, e2⟩ := hu.cells hx
      have hone : ∀ q ∈ u.cells.toList, q.oneCell' = true := by
        intro q hq
        obtain ⟨k, hk⟩ := List.getElem?_of_mem hq
        have hk2 : k < (cellsD y).length := by rw [← e1, ← Array.length_toList]; exact (List.getElem?_eq_some_iff.1 hk).1
        have := (e2 k _ (List.getElem?_eq_getElem hk2)).1
        rw [Array.getElem?_toList] at hk
        rwa [show u.cells.getD k undef = q by simp [Array.getD_eq_getD_getElem?, hk]] at this
      have hrun := run_storeVar_at ht w b o c ty hc1 u (by omega) (by omega) hone
      have hturn : Turns M l w (w.setRow b (c.toList.take o ++ u.cells.toList ++ c.toList.drop (o + ti.size)).toArray) := setRow_turns _ (by rw [hl]; rfl)
      have hS : ∀ n, M.S n → (w.setRow b (c.toList.take o ++ u.cells.toList ++ c.toList.drop (o + ti.size)).toArray).heap[n]? = w.heap[n]? := fun n hn => hturn.keep n (hr.inv.slt n hn) (hr.inv.sep n hn l)
      refine ⟨_, _, ?_, hr.turn_same l (.cells ty (ds.take o ++ cellsD y ++ ds.drop (o + ti.size))) hturn ?_, ?_, hK⟩
      · simp only [Instr.storeAt, Instr.sureAddr, Sem.run_bind, Sem.run_pure, Result.andThen_ok]
        exact hrun
      · rw [hl]
        refine ⟨_, setRow_heap w b c _ ty (0, 0) hc1, ?_, fun k e hk => ?_⟩
        · simp; omega
        · rw [getD_toArray_append3]
          rw [get_append3] at hk
          simp only [List.length_take, Array.length_toList, hc2, e1] at hk ⊢
          have hmin : min o ds.length = o := by omega
          rw [hmin] at hk ⊢
          split
          · rename_i h1
            rw [if_pos h1, List.getElem?_take_of_lt h1] at hk
            have : (c.toList.take o).getD k undef = c.getD k undef := by simp [List.getD_eq_getElem?_getD, List.getElem?_take_of_lt h1, Array.getD_eq_getD_getElem?]
            rw [this]
            exact ⟨(hc3 k e hk).1, (hc3 k e hk).2.mono hS (fun _ q => q) (fun _ _ => rfl)⟩
          · rename_i h1
            rw [if_neg h1] at hk
            split
            · rename_i h2
              rw [if_pos h2] at hk
              have : u.cells.toList.getD (k - o) undef = u.cells.getD (k - o) undef := by simp [List.getD_eq_getElem?_getD, Array.getD_eq_getD_getElem?]
              rw [this]
              exact ⟨(e2 _ e hk).1, (e2 _ e hk).2.mono hS (fun _ q => q) (fun _ _ => rfl)⟩
            · rename_i h2
              rw [if_neg h2, List.getElem?_drop] at hk
              have : (c.toList.drop (o + ti.size)).getD (k - o - (cellsD y).length) undef = c.getD (o + ti.size + (k - o - (cellsD y).length)) undef := by simp [List.getD_eq_getElem?_getD, Array.getD_eq_getD_getElem?]
              rw [this]
              exact ⟨(hc3 _ e hk).1, (hc3 _ e hk).2.mono hS (fun _ q => q) (fun _ _ => rfl)⟩
      · exact ⟨hturn.os, hturn.tape, hturn.output, hturn.size, fun n hn hx => hturn.keep n hn (hx l), fun _ q => q, fun k _ q => .inl ⟨k, q⟩, fun _ q => .inl q⟩
    · exact h.elim
  | ea l sz j o v b hl hb =>
    simp only at h
    split at h
    · rename_i ty sz' rows hds
      split at h
      · rename_i r hrow
        obtain ⟨rfl, hj, hlen, hle, hK⟩ := h
        have hbb := hr.hp l _ hds
        rw [hl] at hbb
        obtain ⟨xs, ho, hz, hx⟩ := hbb
        obtain ⟨e1, e2⟩ := hu.row hrow
        have hone : ∀ q ∈ u.cells.toList, q.oneCell' = true := by
          intro q hq
          obtain ⟨k, hk⟩ := List.getElem?_of_mem hq
          have hk2 : k < r.length := by rw [← e1, ← Array.length_toList]; exact (List.getElem?_eq_some_iff.1 hk).1
          have := (e2 k _ (List.getElem?_eq_getElem hk2)).1
          rw [Array.getElem?_toList] at hk
          rwa [show u.cells.getD k undef = q by simp [Array.getD_eq_getD_getElem?, hk]] at this
        obtain ⟨hol, ho2⟩ := ho
        rcases ho2 with ⟨rfl, _⟩ | ⟨g, cap, cur, rfl, hg0, hg, hnc, hcm, hcs, htk⟩
        · simp [Value.ownBlock] at hb
        · have : g = b := by simpa [Value.ownBlock] using hb
          subst this
          have hjb : (j + 1) * sz' ≤ rows.length * sz' := Nat.mul_le_mul_right _ hj
          have hrb : rows.length * sz' ≤ cap * sz' := Nat.mul_le_mul_right _ hnc
          rw [Nat.add_mul, Nat.one_mul] at hjb
          have hrun := run_storeVar_at ht w g (j * sz' + o) cur ty hg u (by omega) (by omega) hone
          have hturn : Turns M l w (w.setRow g (cur.toList.take (j * sz' + o) ++ u.cells.toList ++ cur.toList.drop (j * sz' + o + ti.size)).toArray) := setRow_turns _ (by rw [hl]; rfl)
          have hS : ∀ n, M.S n → (w.setRow g (cur.toList.take (j * sz' + o) ++ u.cells.toList ++ cur.toList.drop (j * sz' + o + ti.size)).toArray).heap[n]? = w.heap[n]? := fun n hn => hturn.keep n (hr.inv.slt n hn) (hr.inv.sep n hn l)
          refine ⟨_, _, ?_, hr.turn_same l _ hturn ?_, ?_, hK⟩
          · simp only [Instr.storeAt, Instr.sureAddr, Sem.run_bind, Sem.run_pure, Result.andThen_ok]
            exact hrun
          · rw [hl]
            have hrl : (rows[j]).length = sz' := hz _ (List.getElem_mem hj)
            have hD : rows.getD j [] = rows[j] := by simp [List.getD, List.getElem?_eq_getElem hj]
            have hxl : xs.length = rows.length * sz' := hol
            have hcl : cur.toList.length = cap * sz' := by simpa using hcs
            have hul : u.cells.toList.length = ti.size := by simp; omega
            refine ⟨xs.take (j * sz' + o) ++ u.cells.toList ++ xs.drop (j * sz' + o + ti.size), ⟨?_, .inr ⟨g, cap, _, by simp, hg0, setRow_heap w g cur _ ty (0, 0) hg, by simpa using hnc, hcm, ?_, ?_⟩⟩, ?_, ?_⟩
            · simp only [List.length_append, List.length_take, List.length_drop, hul, hxl, List.length_set]; omega
            · simp only [List.size_toArray, List.length_append, List.length_take, List.length_drop, hul, hcl]; omega
            · simp only [List.length_set]
              rw [← htk] at hxl ⊢
              apply List.ext_getElem?
              intro k
              by_cases hk : k < rows.length * sz'
              · rw [List.getElem?_take_of_lt hk, splice_get _ _ _ _ _ hul (by omega), splice_get _ _ _ _ _ hul (by omega), List.getElem?_take_of_lt hk]
              · rw [List.getElem?_eq_none (by simp only [List.length_take]; omega), List.getElem?_eq_none (by simp only [List.length_append, List.length_take, List.length_drop, hul] at hxl ⊢; omega)]
            · intro q hq
              rcases List.mem_or_eq_of_mem_set hq with hq | rfl
              · exact hz q hq
              · rw [hD]; simp only [List.length_append, List.length_take, List.length_drop, hrl, hlen]; omega
            · intro k q m x hq hm
              rw [splice_get _ _ _ _ _ hul (by omega)]
              have hkl : k < rows.length := by have := (List.getElem?_eq_some_iff.1 hq).1; simpa using this
              by_cases hkj : j = k
              · subst hkj
                rw [List.getElem?_set_self hj, hD] at hq
                cases hq
                rw [splice_get _ _ _ _ _ hlen (by omega)] at hm
                by_cases hin : o ≤ m ∧ m < o + ti.size
                · rw [if_pos hin] at hm
                  rw [if_pos (by omega)]
                  obtain ⟨a1, a2⟩ := e2 _ x hm
                  have hlt : m - o < u.cells.size := by omega
                  refine ⟨u.cells.getD (m - o) undef, ?_, a1, a2.mono hS (fun _ q => q)⟩
                  rw [show j * sz' + m - (j * sz' + o) = m - o by omega]
                  simp [Array.getD_eq_getD_getElem?, hlt]
                · rw [if_neg hin] at hm
                  rw [if_neg (by omega)]
                  obtain ⟨q, a1, a2, a3⟩ := hx _ _ _ _ (List.getElem?_eq_getElem hj) hm
                  exact ⟨q, a1, a2, a3.mono hS (fun _ q => q)⟩
              · rw [List.getElem?_set_ne hkj] at hq
                have hml : m < sz' := by rw [← hz q (List.mem_of_getElem? hq)]; exact (List.getElem?_eq_some_iff.1 hm).1
                have hne : ¬ (j * sz' + o ≤ k * sz' + m ∧ k * sz' + m < j * sz' + o + ti.size) := by
                  rcases Nat.lt_or_gt_of_ne hkj with h1 | h1
                  · have : (j + 1) * sz' ≤ k * sz' := Nat.mul_le_mul_right _ h1
                    rw [Nat.add_mul, Nat.one_mul] at this
                    omega
                  · have : (k + 1) * sz' ≤ j * sz' := Nat.mul_le_mul_right _ h1
                    rw [Nat.add_mul, Nat.one_mul] at this
                    omega
                rw [if_neg hne]
                obtain ⟨q2, a1, a2, a3⟩ := hx _ _ _ _ hq hm
                exact ⟨q2, a1, a2, a3.mono hS (fun _ q => q)⟩
          · exact ⟨hturn.os, hturn.tape, hturn.output, hturn.size, fun n hn hx => hturn.keep n hn (hx l), fun _ q => q, fun k _ q => .inl ⟨k, q⟩, fun _ q => .inl q⟩
      · exact h.elim
    · exact h.elim
  | _ => exact h.elim

end Go.Aw
