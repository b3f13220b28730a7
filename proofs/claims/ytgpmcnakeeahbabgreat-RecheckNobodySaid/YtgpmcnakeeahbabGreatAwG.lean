/-
  Slices that are made; elements and parts of slices and strings; lengths; numbers, texts and bools.
-/
import Derived.Test.YtgpmcnakeeahbabGreatAwF
namespace Go.Aw

def TK.elem : TK → Option TypeId
  | .sl e => some e
  | _ => none

theorem und_sl {P : Program} {t : TypeId} {ti : TI} {i : TypeInfo} {d : TypeDesc} {z : Value} (h : TIs P t ti i d z) {e : TypeId} (hk : ti.k = .sl e) : P.underlying t = some (.slice e) := by
  rw [h.und]
  have := h.k
  rw [hk] at this
  cases d <;> simp [kOf] at this
  subst this; rfl

theorem und_arr {P : Program} {t : TypeId} {ti : TI} {i : TypeInfo} {d : TypeDesc} {z : Value} (h : TIs P t ti i d z) {n : Nat} {e : TypeId} (hk : ti.k = .arr n e) : P.underlying t = some (.array n e) := by
  rw [h.und]
  have := h.k
  rw [hk] at this
  cases d <;> simp [kOf] at this
  obtain ⟨rfl, rfl⟩ := this; rfl

theorem und_str {P : Program} {t : TypeId} {ti : TI} {i : TypeInfo} {d : TypeDesc} {z : Value} (h : TIs P t ti i d z) (hk : ti.k = .str) : P.underlying t = some .string := by
  rw [h.und]
  have := h.k
  rw [hk] at this
  cases d <;> simp [kOf] at this
  rfl

/-! ### A literal -/
def partsRows (sz : Nat) : Nat → List (Nat × D) → Option (List (List I))
  | _, [] => some []
  | k, (i, d) :: r => if i = k then
      (match rowOf d with
      | some row => if row.length = sz then (partsRows sz (k + 1) r).map (row :: ·) else none
      | none => none) else none

theorem partsRows_fill (sz : Nat) : ∀ (parts : List (Nat × D)) (k : Nat) (rows : List (List I)) (pre suf : List D), partsRows sz k parts = some rows → pre.length = k * sz → suf.length = parts.length * sz →
    fillD (fun i => some (i * sz, sz)) (pre ++ suf) parts = some (pre ++ (rows.flatten.map .i)) ∧ rows.length = parts.length ∧ ∀ r, r ∈ rows → r.length = sz
  | [], k, rows, pre, suf, h, hp, hs => by
    simp only [partsRows, Option.some.injEq] at h
    subst h
    have : suf = [] := List.eq_nil_of_length_eq_zero (by simpa using hs)
    subst this
    simp [fillD]
  | (i, d) :: parts, k, rows, pre, suf, h, hp, hs => by
    simp only [partsRows] at h
    split at h
    · rename_i hik
      subst hik
      split at h
      · rename_i row hrow
        split at h
        · rename_i hlen
          simp only [Option.map_eq_some_iff] at h
          obtain ⟨rest, hrest, rfl⟩ := h
          obtain ⟨hc, hx⟩ := rowOf_cells hrow
          simp only [List.length_cons, Nat.add_mul, Nat.one_mul] at hs
          have ih := partsRows_fill sz parts (i + 1) rest (pre ++ row.map .i) (suf.drop sz) hrest (by simp [hp, hlen, Nat.add_mul]) (by simp; omega)
          refine ⟨?_, by simp [ih.2.1], fun r hr => (List.mem_cons.1 hr).elim (fun e => e ▸ hlen) (ih.2.2 r)⟩
          simp only [fillD]
          rw [if_pos ⟨hx, by rw [hc]; simpa using hlen, by simp [hp]; omega⟩, hc]
          have e1 : (pre ++ suf).take (i * sz) = pre := List.take_left' hp
          have e2 : (pre ++ suf).drop (i * sz + sz) = suf.drop sz := by rw [← hp, ← List.drop_drop, List.drop_left]
          rw [e1, e2, ih.1]
          simp
        · cases h
      · cases h
    · cases h

def buildSliceP (P : Program) (s : St) (k : Nat) (t : TypeId) (n : Nat) (parts : List (Nat × D)) (K : D → St → Prop) : Prop :=
  match tiOf P t with
  | some { k := .sl e, .. } => (match tiOf P e with
    | some ti => (match partsRows ti.size 0 parts with
      | some rows => 0 < ti.size ∧ parts.length = n ∧ n * ti.size ≤ 16777216 ∧ K (.os (.l k)) { s with hp := hupd s.hp (.l k) (.arr e ti.size rows), nx := k + 1 }
      | none => False)
    | none => False)
  | _ => False

theorem flat_get {α : Type} (sz : Nat) : ∀ (rows : List (List α)) (i : Nat) (r : List α) (j : Nat) (x : α), (∀ r, r ∈ rows → r.length = sz) → rows[i]? = some r → r[j]? = some x → rows.flatten[i * sz + j]? = some x
  | [], i, r, j, x, _, h, _ => by simp at h
  | q :: rows, 0, r, j, x, hz, h, hj => by
    simp at h
    subst h
    rw [List.flatten_cons, Nat.zero_mul, Nat.zero_add, List.getElem?_append_left (List.getElem?_eq_some_iff.1 hj).1]
    exact hj
  | q :: rows, i + 1, r, j, x, hz, h, hj => by
    have hq := hz q (by simp)
    rw [List.flatten_cons, List.getElem?_append_right (by rw [hq, Nat.add_mul]; omega), ← flat_get sz rows i r j x (fun r hr => hz r (by simp [hr])) (by simpa using h) hj]
    congr 1
    rw [hq, Nat.add_mul]
    omega

theorem buildSlice_ok {P : Program} {M : Mem} {s : St} {w : World} {a : Act} (hr : Rep M s w a) (k : Nat) (hk : s.nx ≤ k) {t : TypeId} {n : Nat} {parts : List (Nat × D)} {vs : Array (Nat × Value)} {K : D → St → Prop}
    (h : buildSliceP P s k t n parts K) (hl : parts.length = vs.size) (hp : ∀ (j : Nat) p q, parts[j]? = some p → vs[j]? = some q → q.1 = p.1 ∧ R M w p.2 q.2) :
    ∃ q w' M' s' d, (Instr.buildSlice t n vs).run P w = .ok q w' ∧ Rep M' s' w' a ∧ R M' w' d q ∧ Ext M w M' w' ∧ K d s' := by
  unfold buildSliceP at h
  split at h
  case h_2 => exact h.elim
  rename_i tsize tbytes e tz htt
  obtain ⟨it, dt, zt, ht⟩ := tiOf_spec htt
  have hte := und_sl ht rfl
  split at h
  case h_2 => exact h.elim
  rename_i ti hti
  obtain ⟨i, d, z, hi⟩ := tiOf_spec hti
  split at h
  case h_2 => exact h.elim
  rename_i rows hrows
  obtain ⟨hsz, hn, hlim, hK⟩ := h
  have hzc : z.cells.size = ti.size := by rw [← Array.length_toList, hi.cells]; simpa using hi.len
  let cs0 : Array Value := (Array.range (n * ti.size)).map (z.cells[· % z.cells.size]!)
  let ds0 : List D := (List.range (n * ti.size)).map fun j => ((ti.z.map zD)[j % ti.size]?).getD .any
  obtain ⟨f1, f2, f3⟩ := partsRows_fill ti.size parts 0 rows [] ds0 hrows (by simp) (by simp [ds0, hn])
  simp only [List.nil_append] at f1
  obtain ⟨zz1, zz2⟩ := zeros_get hi M w
  obtain ⟨res, r1, r2, r3⟩ := fill_ok (M := M) (w := w) (fun i => some (i * ti.size, ti.size)) parts vs.toList ds0 cs0 _ f1 (by simpa using hl) (fun j p q hj hq => hp j p q hj (by simpa using hq)) (by simp [cs0, ds0])
    (fun j e hj => by
      simp only [ds0, List.getElem?_map, Option.map_eq_some_iff] at hj
      obtain ⟨j', hj', rfl⟩ := hj
      have hlt : j < n * ti.size := by have := (List.getElem?_eq_some_iff.1 hj').1; simpa using this
      have : j' = j := by rw [List.getElem?_range hlt] at hj'; exact (Option.some.inj hj').symm
      subst this
      have hm : j' % ti.size < ti.z.length := by rw [hi.len]; exact Nat.mod_lt _ hsz
      have e1 : ti.z[j' % ti.size]? = some (ti.z[j' % ti.size]) := List.getElem?_eq_getElem hm
      have e2 : cs0.getD j' undef = z.cells.getD (j' % ti.size) undef := by
        have hm2 : j' % ti.size < z.cells.size := by rw [hzc]; exact Nat.mod_lt _ hsz
        simp only [cs0, Array.getD_eq_getD_getElem?, Array.getElem?_map, Array.getElem?_range, hlt, if_true, Option.map_some, Option.getD_some, hzc, getElem!_pos z.cells (j' % ti.size) hm2, Array.getElem?_eq_getElem hm2]
      rw [e1, e2]
      exact zz2 _ _ (by simp [e1]))
  have hrun : (Instr.buildSlice t n vs).run P w = .ok (.slice (some ⟨w.heap.size, 0, none⟩) n n) (w.alloc (.cells res e)) := by
    unfold Instr.buildSlice
    simp only [Sem.run_bind, run_underlying hte, Result.andThen_ok, run_sizeOf hi]
    rw [if_neg (by simpa using hlim)]
    by_cases h0 : n * ti.size = 0
    · have hn0 : n = 0 := (Nat.mul_eq_zero.1 h0).elim id (fun h => absurd h (by omega))
      have hv0 : vs.toList = [] := by have : vs.size = 0 := by omega
                                      simpa using this
      have hres : res = #[] := by
        rw [hv0] at r1
        simp only [Instr.fill, Option.some.injEq] at r1
        rw [← r1]
        simp [cs0, hn0]
      have hvs : vs = #[] := by simpa using hv0
      subst hvs hn0 hres
      have hz0 : Array.range 0 = #[] := by apply Array.ext'; simp
      simp [newRow, Instr.fill, hz0]
    · rw [if_neg h0]
      have hr1 : Instr.fill (fun i => some (i * ti.size, ti.size)) ((Array.range (n * ti.size)).map (z.cells[· % z.cells.size]!)) vs.toList = some res := r1
      simp only [Sem.run_bind, zeroValue, typeInfo, run_program, Result.andThen_ok, hi.info, hi.zero, Sem.run_pure, hr1, newRow, run_newObj]
      rfl
  have hlen : rows.length = n := by omega
  have hres : res.size = n * ti.size := by
    rw [r2, List.length_map, List.length_flatten]
    have : rows.map List.length = List.replicate rows.length ti.size := by
      apply List.ext_getElem (by simp)
      intro j h1 h2
      simp only [List.getElem_map, List.getElem_replicate]
      exact f3 _ (List.getElem_mem _)
    rw [this]
    simp [hlen]
  have hkeep : ∀ m, m < w.heap.size → (w.alloc (.cells res e)).heap[m]? = w.heap[m]? := fun m hm => halloc_old w _ m hm
  have hS : ∀ m, M.S m → (w.alloc (.cells res e)).heap[m]? = w.heap[m]? := fun m hm => hkeep m (hr.inv.slt m hm)
  have ho : (w.alloc (.cells res e)).ownsRow 0 e ti.size (.slice (some ⟨w.heap.size, 0, none⟩) n n) n res.toList :=
    World.ownsRow_lit w res n (Nat.zero_le _) (by simp only [maxLen]; have : n * 1 ≤ n * ti.size := Nat.mul_le_mul_left _ hsz; omega) hres
  obtain ⟨g1, g2⟩ := hr.fresh (w' := w.alloc (.cells res e)) k hk (.own (.slice (some ⟨w.heap.size, 0, none⟩) n n)) (.arr e ti.size rows) rfl rfl rfl (by simp) hkeep
    (fun m hm => ⟨Nat.le_of_eq (Option.some.inj hm), own_lt ho m hm⟩)
    ⟨res.toList, by rw [hlen]; exact ho, f3, fun i r j x hi hj => by
      have hfl := flat_get ti.size rows i r j x f3 hi hj
      obtain ⟨a1, a2⟩ := r3 (i * ti.size + j) (.i x) (by rw [List.getElem?_map, hfl]; rfl)
      have hlt : i * ti.size + j < res.size := by rw [r2, List.length_map]; exact (List.getElem?_eq_some_iff.1 hfl).1
      cases a2 with
      | i _ _ a2 =>
      exact ⟨res.getD (i * ti.size + j) undef, by simp [Array.getD_eq_getD_getElem?, hlt], a1, a2.mono hS (fun _ q => q)⟩⟩
  exact ⟨_, _, _, _, _, hrun, g1, .os _ _ (by simp [Mem.set]) rfl, g2, hK⟩

/-! ### make([]T, n) -/
def makeP (P : Program) (s : St) (k : Nat) (t : TypeId) (x y : D) (K : D → St → Prop) : Prop :=
  match tiOf P t with
  | some { k := .sl e, .. } => (match tiOf P e, x, y with
    | some ti, .i (.lit (.int _ n)), .i (.lit (.int _ c)) => 0 < ti.size ∧ 0 ≤ n ∧ n ≤ c ∧ (ti.bytes : Int) * c ≤ 281474976710656 ∧ c ≤ 9223372036854775807 ∧
        K (.os (.l k)) { s with hp := hupd s.hp (.l k) (.arr e ti.size (List.replicate n.toNat (ti.z.map fun z => .lit z.val))), nx := k + 1 }
    | _, _, _ => False)
  | _ => False

theorem make_ok {P : Program} {M : Mem} {s : St} {w : World} {a : Act} (hr : Rep M s w a) (k : Nat) (hk : s.nx ≤ k) {t : TypeId} {x y : D} {K : D → St → Prop} (h : makeP P s k t x y K) {v u : Value} (hv : R M w x v) (hu : R M w y u) :
    ∃ q w' M' s' d, (Instr.makeSlice t v u).run P w = .ok q w' ∧ Rep M' s' w' a ∧ R M' w' d q ∧ Ext M w M' w' ∧ K d s' := by
  unfold makeP at h
  split at h
  case h_2 => exact h.elim
  rename_i tsize tbytes e tz htt
  obtain ⟨it, dt, zt, ht⟩ := tiOf_spec htt
  have hte := und_sl ht rfl
  split at h
  case h_2 => exact h.elim
  rename_i ti kn n kc c hti
  obtain ⟨i, d, z, hi⟩ := tiOf_spec hti
  obtain ⟨hsz, h0, hnc, hb, hc, hK⟩ := h
  cases hv with
  | i _ _ hv =>
  cases hv
  cases hu with
  | i _ _ hu =>
  cases hu
  have hzc : z.cells.size = ti.size := by rw [← Array.length_toList, hi.cells]; simpa using hi.len
  have hrun := run_make (P := P) w t e i z hte hi.info hi.zero kn kc n c h0 hnc (by rw [hi.bytes]; exact hb) hc
  rw [hi.size] at hrun
  have hkeep : ∀ m, m < w.heap.size → (w.alloc (.cells (madeCells z.cells (c.toNat * ti.size)) e)).heap[m]? = w.heap[m]? := fun m hm => halloc_old w _ m hm
  have hms : (madeCells z.cells (c.toNat * ti.size)).size = c.toNat * ti.size := by simp [madeCells]
  have hnc' : n.toNat ≤ c.toNat := by omega
  have hle : n.toNat * ti.size ≤ c.toNat * ti.size := Nat.mul_le_mul_right _ hnc'
  have ho : (w.alloc (.cells (madeCells z.cells (c.toNat * ti.size)) e)).ownsRow 0 e ti.size (.slice (some ⟨w.heap.size, 0, none⟩) n.toNat c.toNat) n.toNat ((madeCells z.cells (c.toNat * ti.size)).toList.take (n.toNat * ti.size)) :=
    ⟨by rw [List.length_take, Array.length_toList, hms]; omega, .inr ⟨w.heap.size, c.toNat, _, rfl, Nat.zero_le _, halloc_new w _, hnc', by simp only [maxLen]; omega, hms, rfl⟩⟩
  obtain ⟨g1, g2⟩ := hr.fresh (w' := w.alloc (.cells (madeCells z.cells (c.toNat * ti.size)) e)) k hk (.own (.slice (some ⟨w.heap.size, 0, none⟩) n.toNat c.toNat)) (.arr e ti.size (List.replicate n.toNat (ti.z.map fun z => .lit z.val))) rfl rfl rfl (by simp) hkeep
    (fun m hm => ⟨Nat.le_of_eq (Option.some.inj hm), own_lt ho m hm⟩)
    ⟨_, by rw [List.length_replicate]; exact ho, fun r hr => by rw [List.eq_of_mem_replicate hr, List.length_map]; exact hi.len, fun i r j x hi' hj => by
      have hil : i < n.toNat := by have := (List.getElem?_eq_some_iff.1 hi').1; simpa using this
      rw [List.getElem?_replicate_of_lt hil] at hi'
      cases hi'
      simp only [List.getElem?_map, Option.map_eq_some_iff] at hj
      obtain ⟨zz, hzz, rfl⟩ := hj
      have hjl : j < ti.size := by rw [← hi.len]; exact (List.getElem?_eq_some_iff.1 hzz).1
      have h3 : (i + 1) * ti.size ≤ n.toNat * ti.size := Nat.mul_le_mul_right _ hil
      rw [Nat.add_mul, Nat.one_mul] at h3
      refine ⟨zz.val, ?_, zval_one zz, .lit _ (zval_ok zz)⟩
      rw [List.getElem?_take_of_lt (by omega)]
      have hmod : (i * ti.size + j) % ti.size = j := by rw [Nat.mul_comm, Nat.mul_add_mod, Nat.mod_eq_of_lt hjl]
      have hcl : i * ti.size + j < c.toNat * ti.size := by omega
      have hzl : j < z.cells.size := by omega
      have hget : z.cells[j]? = some zz.val := by rw [← Array.getElem?_toList, hi.cells]; simp [hzz]
      simp only [madeCells, Array.getElem?_toList, Array.getElem?_map, Array.getElem?_range, hcl, if_true, Option.map_some, hzc, hmod]
      have hge : z.cells[j] = zz.val := by rw [Array.getElem?_eq_getElem hzl] at hget; exact Option.some.inj hget
      rw [getElem!_pos z.cells j hzl, hge]⟩
  exact ⟨_, _, _, _, _, hrun, g1, .os _ _ (by simp [Mem.set]) rfl, g2, hK⟩

end Go.Aw
