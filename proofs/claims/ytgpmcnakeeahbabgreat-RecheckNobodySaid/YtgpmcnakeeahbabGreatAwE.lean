/-
  Operations that make memory, or build a value of parts.
-/
import Derived.Test.YtgpmcnakeeahbabGreatAwD
import Derived.Laws.Tables
import Derived.Laws.MakeOwn
namespace Go.Aw

theorem halloc_old (w : World) (o : Obj) (b : Nat) (h : b < w.heap.size) : (w.alloc o).heap[b]? = w.heap[b]? := by
  show (w.heap.push o)[b]? = _
  rw [Array.getElem?_push, if_neg (by omega)]
theorem halloc_new (w : World) (o : Obj) : (w.alloc o).heap[w.heap.size]? = some o := by
  show (w.heap.push o)[w.heap.size]? = _
  simp

theorem getD_list (c : Array Value) (i : Nat) : c.toList.getD i undef = c.getD i undef := by simp [List.getD_eq_getElem?_getD, Array.getD_eq_getD_getElem?]

/-! ### A new variable -/
theorem new_cells {P : Program} {M : Mem} {s : St} {w : World} {a : Act} (hr : Rep M s w a) (k : Nat) (hk : s.nx ≤ k) (t : TypeId) (c : Array Value) (ds : List D) (h1 : c.size = ds.length)
    (h2 : ∀ i e, ds[i]? = some e → (c.getD i undef).oneCell' = true ∧ R M w e (c.getD i undef)) :
    ∃ M', (newRow t c).run P w = .ok ⟨w.heap.size, 0, none⟩ (w.alloc (.cells c t)) ∧ Rep M' { s with hp := hupd s.hp (.l k) (.cells t ds), nx := k + 1 } (w.alloc (.cells c t)) a ∧
      R M' (w.alloc (.cells c t)) (.pt (.l k) 0) (.pointer (some ⟨w.heap.size, 0, none⟩)) ∧ Ext M w M' (w.alloc (.cells c t)) := by
  have hS : ∀ b, M.S b → (w.alloc (.cells c t)).heap[b]? = w.heap[b]? := fun b hb => halloc_old w _ b (hr.inv.slt b hb)
  have hd : M.μ (.l k) = .dead := by
    cases e : M.μ (.l k) with
    | dead => rfl
    | _ => exact absurd (hr.nx k (by rw [e]; simp)) (by omega)
  have hSS : ∀ b, M.S b → (M.set (.l k) (.blk w.heap.size)).S b := fun _ x => x
  have hm : ∀ l, M.μ l ≠ .dead → (M.set (.l k) (.blk w.heap.size)).μ l = M.μ l := fun l hl => by
    have : l ≠ .l k := fun e => hl (e ▸ hd)
    simp [Mem.set, this]
  obtain ⟨g1, g2⟩ := hr.fresh (w' := w.alloc (.cells c t)) k hk (.blk w.heap.size) (.cells t ds) rfl rfl rfl (by simp) (fun n hn => halloc_old w _ n hn)
    (fun n hn => by simp only [Place.has] at hn; subst hn; simp) ⟨c, halloc_new w _, h1, fun i e he => ⟨(h2 i e he).1, (h2 i e he).2.mono hS hSS hm⟩⟩
  exact ⟨_, rfl, g1, .pt _ _ _ (by simp [Mem.set]), g2⟩

theorem box_ok {P : Program} {M : Mem} {s : St} {w : World} {a : Act} (hr : Rep M s w a) (k : Nat) (hk : s.nx ≤ k) (t : TypeId) {x : D} {v : Value} (hv : R M w x v) (hx : okX x = true) :
    ∃ u w' M', (Instr.box t v).run P w = .ok u w' ∧ Rep M' { s with hp := hupd s.hp (.l k) (.cells t (cellsD x)), nx := k + 1 } w' a ∧ R M' w' (.pt (.l k) 0) u ∧ Ext M w M' w' := by
  obtain ⟨h1, h2⟩ := hv.cells hx
  obtain ⟨M', g1, g2, g3, g4⟩ := new_cells (P := P) hr k hk t v.cells (cellsD x) h1 h2
  exact ⟨_, _, M', by simp only [Instr.box, newVar, Sem.run_bind, g1, Result.andThen_ok, Sem.run_pure], g2, g3, g4⟩

def zD (z : Z) : D := .i (.lit z.val)
theorem zval_ok (z : Z) : litOk z.val := by cases z <;> simp [Z.val, litOk, ByteArray.size]
theorem zval_one (z : Z) : z.val.oneCell' = true := by cases z <;> rfl

theorem zeros_get {P : Program} {t : TypeId} {ti : TI} {i : TypeInfo} {d : TypeDesc} {z : Value} (ht : TIs P t ti i d z) (M : Mem) (w : World) :
    z.cells.size = (ti.z.map zD).length ∧ ∀ i e, (ti.z.map zD)[i]? = some e → (z.cells.getD i undef).oneCell' = true ∧ R M w e (z.cells.getD i undef) := by
  have hc := ht.cells
  refine ⟨by rw [← Array.length_toList, hc]; simp, fun i e he => ?_⟩
  rw [List.getElem?_map, Option.map_eq_some_iff] at he
  obtain ⟨y, hy, rfl⟩ := he
  have : z.cells.getD i undef = y.val := by rw [← getD_list, hc]; simp [List.getD_eq_getElem?_getD, hy]
  rw [this]
  exact ⟨zval_one y, .i _ _ (.lit _ (zval_ok y))⟩

theorem alloc_ok {P : Program} {t : TypeId} {ti : TI} {i : TypeInfo} {d : TypeDesc} {z : Value} (ht : TIs P t ti i d z) {M : Mem} {s : St} {w : World} {a : Act} (hr : Rep M s w a) (k : Nat) (hk : s.nx ≤ k) :
    ∃ u w' M', (Instr.alloc t true (.tuple #[])).run P w = .ok u w' ∧ Rep M' { s with hp := hupd s.hp (.l k) (.cells t (ti.z.map zD)), nx := k + 1 } w' a ∧ R M' w' (.pt (.l k) 0) u ∧ Ext M w M' w' := by
  obtain ⟨h1, h2⟩ := zeros_get ht M w
  obtain ⟨M', g1, g2, g3, g4⟩ := new_cells (P := P) hr k hk t z.cells (ti.z.map zD) h1 h2
  refine ⟨_, _, M', ?_, g2, g3, g4⟩
  simp [Instr.alloc, zeroValue, typeInfo, ht.info, ht.zero, newVar, g1]

/-! ### A value of parts -/
def fillD (place : Nat → Option (Nat × Nat)) : List D → List (Nat × D) → Option (List D)
  | cells, [] => some cells
  | cells, (i, d) :: rest =>
    match place i with
    | none => none
    | some (off, size) => if okX d = true ∧ (cellsD d).length = size ∧ off + size ≤ cells.length then fillD place (cells.take off ++ cellsD d ++ cells.drop (off + size)) rest else none

theorem fill_fold (off : Nat) : ∀ (l : List Value) (i : Nat) (cs : Array Value), off + i + l.length ≤ cs.size →
    ((l.zipIdx i).foldl (fun (cs : Array Value) (p : Value × Nat) => cs.setIfInBounds (off + p.2) p.1) cs).toList = cs.toList.take (off + i) ++ l ++ cs.toList.drop (off + i + l.length)
  | [], i, cs, h => by simp
  | v :: l, i, cs, h => by
    simp only [List.length_cons] at h
    have ih := fill_fold off l (i + 1) (cs.setIfInBounds (off + i) v) (by simpa using (by omega : off + (i + 1) + l.length ≤ cs.size))
    simp only [List.zipIdx_cons, List.foldl_cons, ih, Array.toList_setIfInBounds, List.length_cons]
    apply List.ext_getElem?
    intro k
    rw [get_append3, get_append3]
    simp only [List.length_take, List.length_set, Array.length_toList, List.length_cons]
    rw [Nat.min_eq_left (by omega), Nat.min_eq_left (by omega)]
    by_cases h1 : k < off + i
    · rw [if_pos (by omega), if_pos h1, List.getElem?_take_of_lt (by omega), List.getElem?_take_of_lt h1, List.getElem?_set_ne (by omega)]
    · by_cases h2 : k = off + i
      · subst h2
        rw [if_pos (by omega), if_neg (by omega), if_pos (by omega), List.getElem?_take_of_lt (by omega), List.getElem?_set_self (by simp; omega)]
        simp
      · rw [if_neg (show ¬ k < off + (i + 1) by omega), if_neg (show ¬ k < off + i by omega)]
        by_cases h3 : k < off + i + (l.length + 1)
        · rw [if_pos (show k < off + (i + 1) + l.length by omega), if_pos (show k < off + i + (l.length + 1) by omega)]
          obtain ⟨m, rfl⟩ : ∃ m, k = off + i + (m + 1) := ⟨k - (off + i) - 1, by omega⟩
          rw [show off + i + (m + 1) - (off + (i + 1)) = m by omega, show off + i + (m + 1) - (off + i) = m + 1 by omega, List.getElem?_cons_succ]
        · rw [if_neg (show ¬ k < off + (i + 1) + l.length by omega), if_neg (show ¬ k < off + i + (l.length + 1) by omega), List.getElem?_drop, List.getElem?_drop, List.getElem?_set_ne (by omega)]
          congr 1
          omega

theorem fill_ok {M : Mem} {w : World} (place : Nat → Option (Nat × Nat)) : ∀ (parts : List (Nat × D)) (vs : List (Nat × Value)) (ds : List D) (cs : Array Value) (out : List D),
    fillD place ds parts = some out → parts.length = vs.length → (∀ (j : Nat) p q, parts[j]? = some p → vs[j]? = some q → q.1 = p.1 ∧ R M w p.2 q.2) →
    cs.size = ds.length → (∀ i e, ds[i]? = some e → (cs.getD i undef).oneCell' = true ∧ R M w e (cs.getD i undef)) →
    ∃ res, Instr.fill place cs vs = some res ∧ res.size = out.length ∧ ∀ i e, out[i]? = some e → (res.getD i undef).oneCell' = true ∧ R M w e (res.getD i undef)
  | [], [], ds, cs, out, h, _, _, h1, h2 => by
    simp only [fillD, Option.some.injEq] at h
    subst h
    exact ⟨cs, rfl, h1, h2⟩
  | [], _ :: _, _, _, _, _, h, _, _, _ => by simp at h
  | _ :: _, [], _, _, _, _, h, _, _, _ => by simp at h
  | (i, d) :: parts, (i', v) :: vs, ds, cs, out, h, hl, hp, h1, h2 => by
    obtain ⟨e1, hv⟩ := hp 0 _ _ rfl rfl
    simp only at e1 hv
    subst e1
    simp only [fillD] at h
    split at h
    · cases h
    · rename_i off size hpl
      split at h
      · rename_i hc
        obtain ⟨hx, hlen, hle⟩ := hc
        obtain ⟨g1, g2⟩ := hv.cells hx
        have hvs : v.cells.size = size := by omega
        have hsz : ((v.cells.toList.zipIdx 0).foldl (fun (cs : Array Value) (p : Value × Nat) => cs.setIfInBounds (off + p.2) p.1) cs).toList = cs.toList.take off ++ v.cells.toList ++ cs.toList.drop (off + size) := by
          have := fill_fold off v.cells.toList 0 cs (by simp; omega)
          simpa [hvs] using this
        have hfold : v.cells.zipIdx.foldl (fun (cs : Array Value) (p : Value × Nat) => cs.setIfInBounds (off + p.2) p.1) cs = (cs.toList.take off ++ v.cells.toList ++ cs.toList.drop (off + size)).toArray := by
          apply Array.ext'
          rw [← hsz, ← Array.foldl_toList, Array.toList_zipIdx]
        obtain ⟨res, r1, r2⟩ := fill_ok place parts vs _ (cs.toList.take off ++ v.cells.toList ++ cs.toList.drop (off + size)).toArray out h (by simpa using hl) (fun j p q hj hq => hp (j + 1) p q (by simpa using hj) (by simpa using hq))
          (by simp only [List.size_toArray, List.length_append, List.length_take, List.length_drop, Array.length_toList]; omega) (fun k e hk => by
            rw [splice_get _ _ _ _ _ hlen hle] at hk
            have : (cs.toList.take off ++ v.cells.toList ++ cs.toList.drop (off + size)).toArray.getD k undef = if off ≤ k ∧ k < off + size then v.cells.getD (k - off) undef else cs.getD k undef := by
              rw [Array.getD_eq_getD_getElem?, List.getElem?_toArray, splice_get _ _ _ _ _ (by simpa using hvs) (by simp; omega)]
              split <;> simp [Array.getD_eq_getD_getElem?]
            rw [this]
            split
            · rename_i hin; rw [if_pos hin] at hk; exact g2 _ e hk
            · rename_i hin; rw [if_neg hin] at hk; exact h2 _ e hk)
        refine ⟨res, ?_, r2⟩
        simp only [Instr.fill, hpl]
        rw [if_neg (by simp; omega)]
        rw [hfold]
        exact r1
      · cases h

/-- Of a struct's fields, or an array's elements: where each lies, and its size. -/
def plOf (P : Program) (t : TypeId) : Option (List (Nat × Nat)) :=
  match P.underlying t with
  | some (.struct fields) => fields.toList.mapM fun f => (P.info? f.type).map fun i => (f.offset, i.size)
  | _ => none

def placeOf (P : Program) (t : TypeId) (ti : TI) (i : Nat) : Option (Nat × Nat) :=
  match ti.k with
  | .arr _ e => (match tiOf P e with | some te => some (i * te.size, te.size) | none => none)
  | .st _ => (match plOf P t with | some l => l[i]? | none => none)
  | _ => none

def buildP (P : Program) (t : TypeId) (parts : List (Nat × D)) (K : D → Prop) : Prop :=
  match tiOf P t with
  | some ti => (match fillD (placeOf P t ti) (ti.z.map zD) parts with
    | some l => K (.agg l)
    | none => False)
  | none => False

theorem place_none {P : Program} {t : TypeId} {ti : TI} (h : ∀ i, placeOf P t ti i = none) : ∀ (ds : List D) (parts : List (Nat × D)) (out : List D), fillD (placeOf P t ti) ds parts = some out → parts = []
  | _, [], _, _ => rfl
  | _, (i, d) :: _, _, hf => by simp [fillD, h i] at hf

theorem build_ok {P : Program} {t : TypeId} {M : Mem} {w : World} {parts : List (Nat × D)} {vs : Array (Nat × Value)} {K : D → Prop} (h : buildP P t parts K) (hne : parts ≠ []) (hl : parts.length = vs.size)
    (hp : ∀ (j : Nat) p q, parts[j]? = some p → vs[j]? = some q → q.1 = p.1 ∧ R M w p.2 q.2) : ∃ y u, (Instr.build t vs).run P w = .ok u w ∧ R M w y u ∧ K y := by
  unfold buildP at h
  split at h
  · rename_i ti hti
    split at h
    · rename_i l hf
      obtain ⟨i, d, z, ht⟩ := tiOf_spec hti
      obtain ⟨h1, h2⟩ := zeros_get ht M w
      obtain ⟨res, r1, r2, r3⟩ := fill_ok (placeOf P t ti) parts vs.toList _ z.cells l hf (by simpa using hl) (fun j p q hj hq => hp j p q hj (by simpa using hq)) h1 h2
      refine ⟨_, _, run_build w t vs res ?_, .agg _ _ r2 (fun k e hk => (r3 k e hk).1) (fun k e hk => (r3 k e hk).2), h⟩
      have hk := ht.k
      unfold Program.built
      simp only [ht.info, ht.und]
      have hpl : ∀ j, placeOf P t ti j = (match ti.k with | .arr _ e => (match tiOf P e with | some te => some (j * te.size, te.size) | none => none) | .st _ => (match plOf P t with | some l => l[j]? | none => none) | _ => none) := fun _ => rfl
      cases hd : d
      case array n e =>
        have hka : ti.k = .arr n e := by rw [hk, hd]; rfl
        simp only [hka] at hpl
        cases hte : tiOf P e with
        | none => exact absurd (place_none (fun j => by rw [hpl, hte]) _ _ _ hf) hne
        | some te =>
          obtain ⟨ie, de, ze, hte'⟩ := tiOf_spec hte
          simp only [ht.zero, hte'.info]
          rw [show (fun i => some (i * ie.size, ie.size)) = placeOf P t ti by funext j; rw [hpl, hte, hte'.size]]
          exact r1
      case struct fs =>
        have hks : ti.k = .st (fs.toList.map fun f => (f.offset, f.type)) := by rw [hk, hd]; rfl
        simp only [hks] at hpl
        cases hpo : plOf P t with
        | none => exact absurd (place_none (fun j => by rw [hpl, hpo]) _ _ _ hf) hne
        | some pls =>
          have hpo' : fs.toList.mapM (fun f => (P.info? f.type).map fun i => (f.offset, i.size)) = some pls := by
            simpa [plOf, ht.und, hd] using hpo
          simp only [ht.zero, hpo']
          rw [show (fun x => pls.toArray[x]?) = placeOf P t ti by funext j; rw [hpl, hpo]; simp]
          exact r1
      all_goals
        have hkn : ∀ j, placeOf P t ti j = none := fun j => by rw [hpl, hk, hd]; rfl
        exact absurd (place_none hkn _ _ _ hf) hne
    · exact h.elim
  · exact h.elim

end Go.Aw
