/-
  Slices are cleared.
-/
import Derived.Test.YtgpmcnakeeahbabGreatEvM
namespace Go.Ev
open Go.Aw (litOk Z TK TI kOf isAggV tiOf TIs tiOf_spec getD_toArray_append3 get_append3 und_sl)

def clearE (P : Program) (h : H) (t : TypeId) (x : D) : Option (D × H) :=
  match tiOf P t with
  | some { k := .sl e, .. } => (match tiOf P e with
    | some ti => (match x with
      | .lit (.slice none 0 0) => some (.tup [], h)
      | .em => some (.tup [], h)
      | .sl l off len _ => bif Nat.blt 0 ti.size then (match len with
        | 0 => some (.tup [], h)
        | n + 1 => (match h.hp.get l with
          | some (.cells ty op ds) => bif Nat.ble (off + (n + 1) * ti.size) ds.length then
              some (.tup [], { h with hp := h.hp.set l (.cells ty op (ds.take off ++ zerosE ti (n + 1) ++ ds.drop (off + (n + 1) * ti.size))) }) else none
          | _ => none)) else none
      | _ => none)
    | none => none)
  | _ => none

theorem clear_ok {P : Program} {M : Mem} {h h' : H} {w : World} (hr : RH M h w) {t ty : TypeId} {x p : D} (he : clearE P h t x = some (p, h')) {v : Value} (hv : R M x v) :
    ∃ q w', (Builtin.clear_ #[t] ty #[v]).run P w = .ok q w' ∧ RH M h' w' ∧ R M p q ∧ Ext M w M w' := by
  unfold clearE at he
  split at he
  case h_2 => cases he
  rename_i tsize tbytes e tz htt
  obtain ⟨it, dt, zt, ht⟩ := tiOf_spec htt
  have hte := und_sl ht rfl
  split at he
  case h_2 => cases he
  rename_i ti hti
  obtain ⟨i, d, z, hi⟩ := tiOf_spec hti
  have unit : R M (.tup []) (.tuple #[]) := .tup _ _ rfl (fun i d hi => by simp at hi)
  have nothing : ∀ (a : Option Addr) (k : Nat), (Builtin.clear_ #[t] ty #[.slice a 0 k]).run P w = .ok (.tuple #[]) w := fun a k => by
    cases a <;> simp [Builtin.clear_, run_underlying hte]
  split at he
  · cases he
    have hv := hv.litE
    subst hv
    exact ⟨_, w, nothing _ _, hr, unit, Ext.refl M w⟩
  · cases he
    cases hv
    exact ⟨_, w, nothing _ _, hr, unit, Ext.refl M w⟩
  · rename_i l off len cap
    obtain ⟨hsz, he⟩ := bif_some he
    simp only [Nat.blt_eq] at hsz
    cases hv with
    | sl _ _ _ _ b k ha hk h0 hlk hmk =>
    cases len with
    | zero =>
      cases he
      exact ⟨_, w, nothing _ _, hr, unit, Ext.refl M w⟩
    | succ n =>
    simp only at he
    split at he
    case h_2 => cases he
    rename_i ty' op cs hcs
    obtain ⟨hle, he⟩ := bif_some he
    simp only [Nat.ble_eq] at hle
    cases he
    obtain ⟨c, hl, cur, hc1, hc2, hc3⟩ := hr.look hcs ha
    have hcsz : cs.length ≤ cur.size := by
      cases op with
      | none => simp only at hc2; omega
      | some q => exact hc2.1
    have hzc : z.cells.size = ti.size := by rw [← Array.length_toList, hi.cells]; simpa using hi.len
    have hzl := zerosE_length ti hi.len (n + 1)
    generalize hnews : (Builtin.zeroCells z.cells (n + 1)).toList = news
    have hnl : news.length = (n + 1) * ti.size := by rw [← hnews]; simp [Builtin.zeroCells, hzc]
    have hnat : ∀ (j : Nat), j < (n + 1) * ti.size → news.getD j undef = z.cells[j % z.cells.size]! := fun j hj => by
      rw [← hnews]
      simp [Builtin.zeroCells, List.getD_eq_getElem?_getD, hzc, hj]
    have hone : ∀ v ∈ news, v.oneCell' = true := fun v hm => by
      obtain ⟨j, hj, rfl⟩ := List.getElem_of_mem hm
      have := hnat j (by omega)
      rw [List.getD_eq_getElem?_getD, List.getElem?_eq_getElem hj] at this
      simp only [Option.getD_some] at this
      rw [this]
      exact (zeros_cells hi hsz M (n + 1) j _ (List.getElem?_eq_getElem (by rw [hzl]; omega))).1
    have h2 : off + news.length ≤ cur.size := by rw [hnl]; omega
    have hst := run_storeCells_at P b off ty' news 0 cur w hc1 (by simpa using h2) hone
    simp only [Nat.add_zero] at hst
    have hrun : (Builtin.clear_ #[t] ty #[.slice (some ⟨b, off, none⟩) (n + 1) k]).run P w = .ok (.tuple #[]) (w.setRow b (cur.toList.take off ++ news ++ cur.toList.drop (off + news.length)).toArray) := by
      simp [Builtin.clear_, run_underlying hte, zeroValue, typeInfo, hi.info, hi.zero, hnews, hst]
    have wsize : (cur.toList.take off ++ news ++ cur.toList.drop (off + news.length)).toArray.size = cur.size := by
      simp only [List.size_toArray, List.length_append, List.length_take, List.length_drop, Array.length_toList]; omega
    obtain ⟨g1, g2⟩ := hr.write (w' := w.setRow b (cur.toList.take off ++ news ++ cur.toList.drop (off + news.length)).toArray) hl
      (.cells ty' op (cs.take off ++ zerosE ti (n + 1) ++ cs.drop (off + (n + 1) * ti.size))) rfl rfl rfl (by simp) (fun m hm => setRow_other w b m _ (fun q => hm q))
      ⟨_, setRow_heap w b cur _ ty' (0, 0) hc1, by
        rw [wsize]
        have : (cs.take off ++ zerosE ti (n + 1) ++ cs.drop (off + (n + 1) * ti.size)).length = cs.length := by
          simp only [List.length_append, List.length_take, List.length_drop, hzl]; omega
        cases op with
        | none => simp only [this] at hc2 ⊢; exact hc2
        | some q => simp only [this] at hc2 ⊢; exact hc2, fun j q hj => by
          rw [get_append3] at hj
          rw [getD_toArray_append3]
          have m1 : min off cs.length = off := by omega
          have m2 : min off cur.size = off := by omega
          simp only [List.length_take, Array.length_toList, m1, m2, hnl, hzl] at hj ⊢
          split
          · rename_i q1
            rw [if_pos q1, List.getElem?_take_of_lt q1] at hj
            rw [show (cur.toList.take off).getD j undef = cur.getD j undef by simp [List.getD_eq_getElem?_getD, List.getElem?_take_of_lt q1, Array.getD_eq_getD_getElem?]]
            exact hc3 j q hj
          · rename_i q1
            rw [if_neg q1] at hj
            split
            · rename_i q2
              rw [if_pos q2] at hj
              rw [hnat _ (by omega)]
              exact zeros_cells hi hsz M (n + 1) _ q hj
            · rename_i q2
              rw [if_neg q2, List.getElem?_drop] at hj
              rw [show (cur.toList.drop (off + (n + 1) * ti.size)).getD (j - off - (n + 1) * ti.size) undef = cur.getD (off + (n + 1) * ti.size + (j - off - (n + 1) * ti.size)) undef by simp [List.getD_eq_getElem?_getD, Array.getD_eq_getD_getElem?]]
              exact hc3 _ q hj⟩
    exact ⟨_, _, hrun, g1, unit, g2⟩
  · cases he
end Go.Ev
