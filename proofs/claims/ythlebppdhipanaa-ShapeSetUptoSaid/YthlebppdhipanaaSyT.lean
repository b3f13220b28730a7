/-
  What a caller hands over, as data that does not change any more.
-/
import Derived.Test.YthlebppdhipanaaSyS
import Derived.ChangeArms
import Derived.DataReads
import Derived.Carry
set_option linter.all false
namespace Go.Ev
open Go.Aw

/-- The blocks of a heap. -/
def fzOf (w : World) (b : Nat) : Option (Array Value) := match w.heap[b]? with
  | some (.cells c _ _) => some c
  | _ => none

theorem inv_fzOf (w : World) : Inv (Mem.none (fzOf w)) w := by
  refine ⟨fun _ _ _ _ _ e => (by cases e), fun _ _ _ e => (by cases e), fun _ _ _ e => (by cases e), fun b c e => ?_, fun _ _ _ _ _ e => (by cases e)⟩
  simp only [Mem.none, fzOf] at e
  split at e
  · rename_i c' t fr h
    cases e
    exact ⟨t, fr, h⟩
  · cases e

theorem keptBut_of_extW {W W' : World} {M' : Mem} {fz : Nat → Option (Array Value)} (h : ExtW (Mem.none fz) W M' W') (may : MemPlace → Prop) : W.keptBut W' may := by
  refine ⟨h.os, h.output, fun i hi => ?_⟩
  have hk : W'.heap[i]? = W.heap[i]? := h.keep i hi (fun l c => fun h => (by cases h))
  rw [hk]
  split
  · rename_i h1 h2
    cases h1.symm.trans h2
    exact ⟨rfl, rfl, rfl, fun _ _ => rfl⟩
  · rename_i h1 h2
    cases h1.symm.trans h2
    exact .inr ⟨rfl, rfl⟩
  · rfl

/-- A row of cells. -/
def RRow (M : Mem) (row : List D) (cs : List Value) : Prop := row.length = cs.length ∧ ∀ (i : Nat) d, row[i]? = some d → ∃ v, cs[i]? = some v ∧ R M d v ∧ v.oneCell' = true

theorem RRow.nil {M : Mem} : RRow M [] [] := ⟨rfl, fun i d h => by simp at h⟩
theorem RRow.one {M : Mem} {d : D} {v : Value} (h : R M d v) (h1 : v.oneCell' = true) : RRow M [d] [v] := ⟨rfl, fun i e hi => by
  cases i with
  | zero => simp at hi; subst hi; exact ⟨v, rfl, h, h1⟩
  | succ i => simp at hi⟩
theorem RRow.append {M : Mem} {a b : List D} {xs ys : List Value} (h : RRow M a xs) (k : RRow M b ys) : RRow M (a ++ b) (xs ++ ys) := by
  refine ⟨by simp [h.1, k.1], fun i d hi => ?_⟩
  by_cases hlt : i < a.length
  · rw [List.getElem?_append_left hlt] at hi
    rw [List.getElem?_append_left (by rw [← h.1]; exact hlt)]
    exact h.2 i d hi
  · rw [List.getElem?_append_right (by omega)] at hi
    rw [List.getElem?_append_right (by rw [← h.1]; omega), ← h.1]
    exact k.2 _ d hi

/-- Rows of a type: letters, structs of them, slices of them. -/
def TDf (g : TypeId → List D → Prop) : List Field → List D → Prop
  | [], row => row = []
  | f :: r, row => ∃ a b, row = a ++ b ∧ g f.type a ∧ TDf g r b
def TD (P : Program) : Nat → TypeId → List D → Prop
  | 0, _, _ => False
  | n + 1, t, row => match P.underlying t with
    | some .bool => ∃ b, row = [.lit (.bool b)]
    | some (.int k) => ∃ i, (Lit.int k i).wf = true ∧ row = [.lit (.int k i)]
    | some .string => ∃ s : ByteArray, s.size ≤ maxLen ∧ row = [.lit (.string s)]
    | some (.slice e) => ∃ rows, row = [.sq false (P.cellsOf e) rows] ∧ ∀ r ∈ rows, TD P n e r
    | some (.struct fs) => TDf (TD P n) fs.toList row
    | _ => False

def contig (P : Program) : List Field → Nat → Nat → Bool
  | [], o, z => o == z
  | f :: r, o, z => f.offset == o && contig P r (o + P.cellsOf f.type) z

/-- Types of letters, structs, slices. -/
def plainT (P : Program) (ts : List TypeId) : Bool := ts.all fun t => match P.underlying t with
  | some .bool | some (.int _) | some .string => P.cellsOf t == 1
  | some (.slice e) => P.cellsOf t == 1 && (ts.contains e && decide (0 < P.cellsOf e))
  | some (.struct fs) => contig P fs.toList 0 (P.cellsOf t) && fs.toList.all fun f => ts.contains f.type
  | _ => false


theorem cells_block {w : World} {a : Addr} {n : Nat} {cs : List Value} (h : w.cells? 0 a n = some cs) (hn : 0 < n) :
    a.spot = none ∧ ∃ c, fzOf w a.block = some c ∧ cs.length = n ∧ ∀ i, i < n → c[a.off + i]? = cs[i]? := by
  obtain ⟨_, hl, hg⟩ := World.cells?_some h
  have h0 := hg 0 hn
  have e0 : cs[0]? = some cs[0] := List.getElem?_eq_getElem (by omega)
  rw [e0] at h0
  have e1 : a.add 0 = a := rfl
  rw [e1] at h0
  unfold World.cell? at h0
  split at h0
  case h_2 => cases h0
  rename_i c t fr hb
  split at h0
  · cases h0
  rename_i hs
  have hs : a.spot = none := by simpa using hs
  refine ⟨hs, c, by simp [fzOf, hb], hl, fun i hi => ?_⟩
  rw [← hg i hi]
  have e2 : a.add i = ⟨a.block, a.off + i, none⟩ := by
    unfold Addr.add
    split
    · rename_i h; subst h; cases a; simp at hs; simp [hs]
    · rfl
  rw [e2]
  simp [World.cell?, hb]

theorem fields_read {H : Type} {enc : TypeId × Value → H} {P : Program} {w : World} {n : Nat} {ts : List TypeId} {cs : List Value} {z : Nat}
    (ih : ∀ t cs x, ts.contains t = true → DataW.trod enc P w 0 (fun _ => true) true n t cs = some x → cs.length = P.cellsOf t ∧ ∃ row, TD P n t row ∧ RRow (Mem.none (fzOf w)) row cs) (hz : cs.length = z) :
    ∀ (fs : List Field) (o : Nat), contig P fs o z = true → (∀ f ∈ fs, ts.contains f.type = true) → (∀ f ∈ fs, ∃ x, DataW.trod enc P w 0 (fun _ => true) true n f.type ((cs.drop f.offset).take (P.cellsOf f.type)) = some x) →
      ∃ row, TDf (TD P n) fs row ∧ RRow (Mem.none (fzOf w)) row (cs.drop o)
  | [], o, hc, _, _ => by
    simp only [contig, beq_iff_eq] at hc
    refine ⟨[], rfl, ?_⟩
    rw [List.drop_of_length_le (by omega)]
    exact .nil
  | f :: r, o, hc, ht, hx => by
    simp only [contig, Bool.and_eq_true, beq_iff_eq] at hc
    obtain ⟨rfl, hc⟩ := hc
    obtain ⟨x, hx0⟩ := hx f (by simp)
    obtain ⟨hl, a, h1, h2⟩ := ih _ _ _ (ht f (by simp)) hx0
    obtain ⟨b, h3, h4⟩ := fields_read ih hz r _ hc (fun g hg => ht g (by simp [hg])) (fun g hg => hx g (by simp [hg]))
    refine ⟨a ++ b, ⟨a, b, rfl, h1, h3⟩, ?_⟩
    have := h2.append h4
    rwa [← List.drop_drop, List.take_append_drop] at this

/-- **What is read is data that does not change.** -/
theorem read_ok {H : Type} {enc : TypeId × Value → H} {P : Program} {w : World} {ts : List TypeId} (hts : plainT P ts = true) : ∀ (n : Nat) (t : TypeId) (cs : List Value) (x : DataW H × List MemPlace), ts.contains t = true →
    DataW.trod enc P w 0 (fun _ => true) true n t cs = some x → cs.length = P.cellsOf t ∧ ∃ row, TD P n t row ∧ RRow (Mem.none (fzOf w)) row cs := by
  intro n
  induction n with
  | zero => intro t cs x _ h; simp [DataW.trod] at h
  | succ n ih =>
    intro t cs x ht h
    have hp := List.all_eq_true.1 hts t (by simpa using ht)
    cases hu : P.underlying t with
    | none => rw [hu] at hp; cases hp
    | some u =>
      rw [hu] at hp
      cases u <;> simp only [Bool.false_eq_true] at hp
      case bool =>
        obtain ⟨b, rfl, _⟩ := DataW.trod_bool hu h
        exact ⟨(beq_iff_eq.1 hp).symm, [.lit (.bool b)], by simp [TD, hu], .one (.lit _ trivial) rfl⟩
      case int k =>
        obtain ⟨i, rfl, _, hw⟩ := DataW.trod_int hu h
        exact ⟨(beq_iff_eq.1 hp).symm, [.lit (.int k i)], by simp [TD, hu, hw], .one (.lit _ trivial) rfl⟩
      case string =>
        obtain ⟨s, rfl, _, hs⟩ := DataW.trod_string hu h
        exact ⟨(beq_iff_eq.1 hp).symm, [.lit (.string s)], by simpa [TD, hu] using hs, .one (.lit _ hs) rfl⟩
      case slice e =>
        simp only [Bool.and_eq_true, beq_iff_eq, decide_eq_true_eq] at hp
        rcases DataW.trod_slice hu h with ⟨rfl, _⟩ | ⟨a, len, cap, elems, rest, m, hm, rfl, _, _, hle, hcap, hlen, he, hr, _⟩
        · exact ⟨hp.1.symm, [.sq false (P.cellsOf e) []], by simp [TD, hu], .one (.sqn _ _ _) rfl⟩
        · cases hm
          obtain ⟨h1, hte, hpos⟩ := hp
          refine ⟨h1.symm, ?_⟩
          generalize hsz : P.cellsOf e = sz at *
          by_cases hc0 : cap = 0
          · have h0 : len = 0 := by omega
            subst hc0 h0
            exact ⟨[.sq false sz []], by simp [TD, hu, hsz], .one (.sqn _ _ _) rfl⟩
          have hblk : ∃ cs0, w.cells? 0 a sz = some cs0 := by
            by_cases hl0 : len = 0
            · subst hl0
              obtain ⟨hr1, hr2⟩ := hr rfl
              have := hr2 0 (by omega)
              rw [List.getElem?_eq_getElem (by omega), Option.bind_eq_some_iff] at this
              obtain ⟨cs0, h2, _⟩ := this
              rw [show (0 + 0) * sz = 0 by simp] at h2
              exact ⟨cs0, h2⟩
            · have := he 0 (by omega)
              rw [List.getElem?_eq_getElem (by omega), Option.bind_eq_some_iff] at this
              obtain ⟨cs0, h2, _⟩ := this
              rw [show 0 * sz = 0 by simp] at h2
              exact ⟨cs0, h2⟩
          obtain ⟨cs0, hcs0⟩ := hblk
          obtain ⟨hsp, c, hfz, _, _⟩ := cells_block hcs0 hpos
          have hadd : ∀ i, a.add i = ⟨a.block, a.off + i, none⟩ := fun i => by
            unfold Addr.add
            split
            · rename_i h; subst h; cases a; simp at hsp; simp [hsp]
            · rfl
          have hrow : ∀ i, i < len → ∃ row, TD P n e row ∧ row.length = sz ∧ ∀ (j : Nat) d, row[j]? = some d → c[a.off + i * sz + j]? = some (c.getD (a.off + i * sz + j) undef) ∧ (c.getD (a.off + i * sz + j) undef).oneCell' = true ∧ R (Mem.none (fzOf w)) d (c.getD (a.off + i * sz + j) undef) := fun i hi => by
            have := he i hi
            rw [List.getElem?_eq_getElem (by omega), Option.bind_eq_some_iff] at this
            obtain ⟨cs1, h2, h3⟩ := this
            obtain ⟨_, c', hc', hl1, hg⟩ := cells_block h2 hpos
            rw [hadd] at hc' hg
            simp only at hc' hg
            rw [hfz] at hc'
            cases hc'
            obtain ⟨h4, row, h5, h6⟩ := ih e cs1 _ hte h3
            refine ⟨row, h5, by rw [h6.1, hl1], fun j d hj => ?_⟩
            obtain ⟨v, h7, h8, h9⟩ := h6.2 j d hj
            have hlt : j < cs1.length := (List.getElem?_eq_some_iff.1 h7).1
            have h10 := hg j (by omega)
            rw [h7] at h10
            have h11 : c.getD (a.off + i * sz + j) undef = v := by rw [Array.getD_eq_getD_getElem?, h10]; rfl
            rw [h11]
            exact ⟨h10, h9, h8⟩
          have hrows : ∃ rows : List (List D), rows.length = len ∧ ∀ (i : Nat) r, rows[i]? = some r → TD P n e r ∧ r.length = sz ∧ ∀ (j : Nat) d, r[j]? = some d → c[a.off + i * sz + j]? = some (c.getD (a.off + i * sz + j) undef) ∧ (c.getD (a.off + i * sz + j) undef).oneCell' = true ∧ R (Mem.none (fzOf w)) d (c.getD (a.off + i * sz + j) undef) := by
            refine ⟨(List.range len).map fun i => if h : i < len then Classical.choose (hrow i h) else [], by simp, fun i r hr => ?_⟩
            simp only [List.getElem?_map, Option.map_eq_some_iff] at hr
            obtain ⟨j, hj, rfl⟩ := hr
            obtain ⟨hlt, rfl⟩ := List.getElem?_eq_some_iff.1 hj
            simp only [List.length_range] at hlt
            simp only [List.getElem_range, hlt, dif_pos]
            exact Classical.choose_spec (hrow i hlt)
          obtain ⟨rows, hl2, hr2⟩ := hrows
          refine ⟨[.sq false sz rows], ?_, ?_⟩
          · simp only [TD, hu, hsz]
            exact ⟨rows, rfl, fun r hr => by
              obtain ⟨i, hi⟩ := List.mem_iff_getElem?.1 hr
              exact (hr2 i r hi).1⟩
          · have ha : a = ⟨a.block, a.off, none⟩ := by cases a; simp at hsp; simp [hsp]
            rw [ha, ← hl2]
            refine .one (.sq false sz rows a.block a.off cap c (fun i j => c.getD (a.off + i * sz + j) undef) hfz (by omega) hcap (fun h => by cases h) (fun r hr => ?_) (fun i r j x h1 h2 => ?_) (fun i r j x h1 h2 => ?_)) rfl
            · obtain ⟨i, hi⟩ := List.mem_iff_getElem?.1 hr
              exact (hr2 i r hi).2.1
            · exact ⟨((hr2 i r h1).2.2 j x h2).1, ((hr2 i r h1).2.2 j x h2).2.1⟩
            · exact ((hr2 i r h1).2.2 j x h2).2.2
      case struct fs =>
        simp only [Bool.and_eq_true] at hp
        obtain ⟨xs, m, hm, _, hl, hxl, hg⟩ := DataW.trod_struct hu h
        cases hm
        obtain ⟨row, h1, h2⟩ := fields_read ih hl fs.toList 0 hp.1 (fun f hf => List.all_eq_true.1 hp.2 f hf) (fun f hf => by
          obtain ⟨i, hi⟩ := List.mem_iff_getElem?.1 hf
          have hi' : fs[i]? = some f := by simpa using hi
          have hlt : i < xs.length := by rw [hxl]; exact (Array.getElem?_eq_some_iff.1 hi').1
          exact ⟨xs[i], (hg i f hi').trans (List.getElem?_eq_getElem hlt)⟩)
        exact ⟨hl, row, by simpa [TD, hu] using h1, h2⟩
end Go.Ev
namespace Go.Ev
open Go.Aw
/-- A struct that is handed over. -/
theorem read_agg {H : Type} {enc : TypeId × Value → H} {P : Program} {w : World} {ts : List TypeId} (hts : plainT P ts = true) {t : TypeId} (ht : ts.contains t = true) {cs : Array Value} {d : DataW H} {ps : List MemPlace}
    (h : DataW.Trod enc P w 0 (fun _ => true) true t (.agg cs) d ps) : ∃ n row, TD P n t row ∧ R (Mem.none (fzOf w)) (.agg row) (.agg cs) := by
  obtain ⟨n, h⟩ := h
  obtain ⟨_, row, h1, h2, h3⟩ := read_ok hts n t _ _ ht h
  have hl : cs.size = row.length := by rw [h2]; simp [Value.cells]
  refine ⟨n, row, h1, .agg row cs hl (fun i d hi => ?_) (fun i d hi => ?_)⟩
  all_goals
    obtain ⟨v, h4, h5, h6⟩ := h3 i d hi
    have h7 : cs[i]? = some v := by simpa [Value.cells] using h4
    have h8 : cs.getD i undef = v := by rw [Array.getD_eq_getD_getElem?, h7]; rfl
    rw [h8]
    assumption

theorem below_of_extW {W W' : World} {M' : Mem} {fz : Nat → Option (Array Value)} (h : ExtW (Mem.none fz) W M' W') : RowKit.Below W.heap.size W W' :=
  ⟨h.os, h.tape, h.output, h.size, fun k hk => h.keep k hk (fun l c => fun h => (by cases h))⟩

/-- What a contract tells of a call with what a caller hands over. -/
theorem FnO.calls {P : Program} {g : FuncId} {args : List D} {v : Value} (h : FnO P g args (.ret (.lit v))) (hen : enters P g = true) {w : World} {vs : Array Value} (hv : argsOk (Mem.none (fzOf w)) args vs) :
    Calls P g vs w fun e w' => e = .returned v ∧ RowKit.Below w.heap.size w w' ∧ ∀ may, w.keptBut w' may := by
  rcases h with ⟨_, h⟩ | ⟨h, _⟩
  · refine (h (fzOf w) w vs (inv_fzOf w) hv).mono ?_
    rintro e w' ⟨fz', ⟨u, rfl, hu⟩, _, hx⟩
    cases hu
    exact ⟨rfl, below_of_extW hx, keptBut_of_extW hx⟩
  · rw [hen] at h; cases h
end Go.Ev
