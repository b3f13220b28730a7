/-
  Slices: literals, append, make, elements, lengths.
-/
import Derived.Test.YtgpmcnakeeahbabGreatAwE
namespace Go.Aw

/-! ### Where rows come from -/
def rowsOf (s : St) : D → Option (List (List I))
  | .i (.sl _ _ rows) => some rows
  | .i (.lit (.slice none 0 0)) => some []
  | .os l => (match hlook s.hp l with
    | some (.arr _ _ rows) => some rows
    | _ => none)
  | _ => none

def szOk (s : St) (sz : Nat) : D → Prop
  | .i (.sl _ sz' _) => sz' = sz
  | .i (.lit _) => True
  | .os l => (match hlook s.hp l with
    | some (.arr _ sz' _) => sz' = sz
    | _ => False)
  | _ => False

/-- The rows of a slice, as values in a row. -/
structure Src (M : Mem) (w : World) (sz : Nat) (ys : List (List I)) (v : Value) (news : List Value) : Prop where
  len : news.length = ys.length * sz
  rows : ∀ r, r ∈ ys → r.length = sz
  at_ : ∀ i r j x, ys[i]? = some r → r[j]? = some x → ∃ u, news[i * sz + j]? = some u ∧ u.oneCell' = true ∧ RI w M.S x u
  one : ∀ u, u ∈ news → u.oneCell' = true
  val : (v = .slice none 0 0 ∧ ys = []) ∨ ∃ b off c, v = .slice (some ⟨b, off, none⟩) ys.length c ∧ ys.length ≤ c ∧ c ≤ maxLen ∧ (∀ j u, news[j]? = some u → w.cell? ⟨b, off + j, none⟩ = some u) ∧ (M.S b ∨ ∃ l, (M.μ l).has b)

theorem divmod (k sz : Nat) (_hk : 0 < sz) : k / sz * sz + k % sz = k := by
  have := Nat.div_add_mod k sz
  rw [Nat.mul_comm] at this
  exact this

theorem src_of_RI {M : Mem} {w : World} {f : Bool} {sz : Nat} {rows : List (List I)} {v : Value} (h : RI w M.S (.sl f sz rows) v) : ∃ news, Src M w sz rows v news := by
  cases h with
  | nil => exact ⟨[], ⟨by simp, by simp, by simp, by simp, .inl ⟨rfl, rfl⟩⟩⟩
  | sl f sz rows b off cap V hb hn hc hf hz h1 h2 =>
    have key : ∀ k, k < rows.length * sz → ∃ r x, rows[k / sz]? = some r ∧ r[k % sz]? = some x := by
      intro k hk
      have hsz : 0 < sz := by rcases Nat.eq_zero_or_pos sz with e | e
                              · rw [e] at hk; simp at hk
                              · exact e
      have hi : k / sz < rows.length := (Nat.div_lt_iff_lt_mul hsz).2 hk
      have hr : rows[k / sz]? = some rows[k / sz] := List.getElem?_eq_getElem hi
      have hl := hz _ (List.getElem_mem hi)
      exact ⟨_, _, hr, List.getElem?_eq_getElem (by rw [hl]; exact Nat.mod_lt _ hsz)⟩
    have idx : ∀ i r j x, rows[i]? = some r → r[j]? = some x → (i * sz + j) / sz = i ∧ (i * sz + j) % sz = j ∧ i * sz + j < rows.length * sz := by
      intro i r j x hi hj
      have hl := hz r (List.mem_of_getElem? hi)
      have hjl : j < sz := by rw [← hl]; exact (List.getElem?_eq_some_iff.1 hj).1
      have hil : i < rows.length := (List.getElem?_eq_some_iff.1 hi).1
      have h3 : (i + 1) * sz ≤ rows.length * sz := Nat.mul_le_mul_right _ hil
      rw [Nat.add_mul, Nat.one_mul] at h3
      exact ⟨by rw [Nat.mul_comm, Nat.mul_add_div (by omega), Nat.div_eq_of_lt hjl, Nat.add_zero], by rw [Nat.mul_comm, Nat.mul_add_mod, Nat.mod_eq_of_lt hjl], by omega⟩
    refine ⟨(List.range (rows.length * sz)).map fun k => V (k / sz) (k % sz), ⟨by simp, hz, fun i r j x hi hj => ?_, fun u hu => ?_, .inr ⟨b, off, cap, rfl, hn, hc, fun k u hk => ?_, .inl hb⟩⟩⟩
    · obtain ⟨a1, a2, a3⟩ := idx i r j x hi hj
      refine ⟨V i j, by simp [a3, a1, a2], (h1 i r j x hi hj).2, h2 i r j x hi hj⟩
    · simp only [List.mem_map, List.mem_range] at hu
      obtain ⟨k, hk, rfl⟩ := hu
      obtain ⟨r, x, hr, hx⟩ := key k hk
      exact (h1 _ r _ x hr hx).2
    · simp only [List.getElem?_map, Option.map_eq_some_iff] at hk
      obtain ⟨k', hk', rfl⟩ := hk
      have hlt : k < rows.length * sz := by have := (List.getElem?_eq_some_iff.1 hk').1; simpa using this
      have : k' = k := by rw [List.getElem?_range hlt] at hk'; exact (Option.some.inj hk').symm
      subst this
      obtain ⟨r, x, hr, hx⟩ := key k' hlt
      have hsz : 0 < sz := by rcases Nat.eq_zero_or_pos sz with e | e
                              · rw [e] at hlt; simp at hlt
                              · exact e
      have := (h1 _ r _ x hr hx).1
      rwa [Nat.add_assoc, divmod k' sz hsz] at this

theorem src_of_own {M : Mem} {w : World} {ty : TypeId} {sz : Nat} {rows : List (List I)} {v : Value} {l : Loc} (hl : M.μ l = .own v) {xs : List Value} (ho : w.ownsRow 0 ty sz v rows.length xs) (hz : ∀ r, r ∈ rows → r.length = sz)
    (hx : ∀ i r j x, rows[i]? = some r → r[j]? = some x → ∃ u, xs[i * sz + j]? = some u ∧ u.oneCell' = true ∧ RI w M.S x u) : Src M w sz rows v xs := by
  obtain ⟨h1, h2⟩ := ho
  have hone : ∀ u, u ∈ xs → u.oneCell' = true := by
    intro u hu
    obtain ⟨k, hk⟩ := List.getElem?_of_mem hu
    have hlt : k < rows.length * sz := by rw [← h1]; exact (List.getElem?_eq_some_iff.1 hk).1
    have hsz : 0 < sz := by rcases Nat.eq_zero_or_pos sz with e | e
                            · rw [e] at hlt; simp at hlt
                            · exact e
    have hi : k / sz < rows.length := (Nat.div_lt_iff_lt_mul hsz).2 hlt
    obtain ⟨u', a1, a2, _⟩ := hx (k / sz) _ (k % sz) _ (List.getElem?_eq_getElem hi) (List.getElem?_eq_getElem (by rw [hz _ (List.getElem_mem hi)]; exact Nat.mod_lt _ hsz))
    rw [divmod k sz hsz, hk] at a1
    cases a1
    exact a2
  refine ⟨h1, hz, hx, hone, ?_⟩
  rcases h2 with ⟨rfl, hn⟩ | ⟨g, cap, cur, rfl, hg0, hg, hnc, hcm, hcs, htk⟩
  · exact .inl ⟨rfl, List.eq_nil_of_length_eq_zero hn⟩
  · refine .inr ⟨g, 0, cap, rfl, hnc, hcm, fun j u hj => ?_, .inr ⟨l, by rw [hl]; rfl⟩⟩
    have hjl : j < rows.length * sz := by rw [← h1]; exact (List.getElem?_eq_some_iff.1 hj).1
    rw [← htk, List.getElem?_take_of_lt hjl] at hj
    rw [Nat.zero_add]
    simpa [World.cell?, hg] using hj

theorem src_ok {M : Mem} {s : St} {w : World} {a : Act} (hr : Rep M s w a) {y : D} {v : Value} (hv : R M w y v) {ys : List (List I)} {sz : Nat} (hy : rowsOf s y = some ys) (hs : szOk s sz y) : ∃ news, Src M w sz ys v news := by
  cases hv with
  | i x v h =>
    cases x with
    | sl f sz' rows =>
      simp only [rowsOf, Option.some.injEq] at hy
      simp only [szOk] at hs
      subst hy hs
      exact src_of_RI h
    | lit u =>
      cases h
      unfold rowsOf at hy
      split at hy
      · rename_i heq; cases heq
      · rename_i heq
        cases heq
        cases hy
        exact ⟨[], ⟨by simp, by simp, by simp, by simp, .inl ⟨rfl, rfl⟩⟩⟩
      · rename_i heq; cases heq
      · cases hy
    | _ => simp [rowsOf] at hy
  | os l v hl hone =>
    simp only [rowsOf] at hy
    simp only [szOk] at hs
    split at hy
    · rename_i ty sz' rows hds
      rw [hds] at hs
      simp only at hs
      cases hy
      subst hs
      have := hr.hp l _ hds
      rw [hl] at this
      obtain ⟨xs, h1, h2, h3⟩ := this
      exact ⟨xs, src_of_own hl h1 h2 h3⟩
    · cases hy
  | _ => simp [rowsOf] at hy


/-! ### append -/
theorem run_append_none {P : Program} {t e : TypeId} {i : TypeInfo} (ht : P.underlying t = some (.slice e)) (hi : P.info? e = some i) (ty : TypeId) (w : World) (b : Option Addr) (n c : Nat) (hnc : n ≤ c) :
    (Builtin.append_ #[t, t] ty #[.slice b n c, .slice none 0 0]).run P w = .ok (.slice b n c) w := by
  cases b <;> simp [Builtin.append_, run_underlying ht, sizeOf, typeInfo, hi, Builtin.lenOf, Builtin.firstCells, hnc, storeCells]

/-- append onto a slice that is nil or the state's own: any source. -/
theorem append_own {P : Program} {t e : TypeId} {ti : TI} {i : TypeInfo} {d : TypeDesc} {z : Value} (ht : P.underlying t = some (.slice e)) (hte : TIs P e ti i d z) (hsz : 0 < ti.size) (ty : TypeId) {M : Mem} {w : World} {v u : Value} {n : Nat} {xs : List Value}
    (ho : w.ownsRow 0 e ti.size v n xs) {ys : List (List I)} {news : List Value} (hs : Src M w ti.size ys u news) (hb : (n + ys.length) * ti.bytes ≤ 140737488355328) (hm : n + ys.length ≤ maxLen) :
    ∃ v' w', (Builtin.append_ #[t, t] ty #[v, u]).run P w = .ok v' w' ∧ w'.ownsRow 0 e ti.size v' (n + ys.length) (xs ++ news) ∧ w.grownBy w' v.ownBlock ∧ (v'.ownBlock = v.ownBlock ∨ v'.ownBlock = some w.heap.size) := by
  have hzc : z.cells.size = ti.size := by rw [← Array.length_toList, hte.cells]; simpa using hte.len
  rcases hs.val with ⟨rfl, hy⟩ | ⟨b, off, c, rfl, hyc, hcm, hcell, _⟩
  · subst hy
    have hn : news = [] := List.eq_nil_of_length_eq_zero (by simpa using hs.len)
    subst hn
    refine ⟨v, w, ?_, by simpa using ho, World.grownBy.refl w _, .inl rfl⟩
    rcases ho.2 with ⟨rfl, rfl⟩ | ⟨g, cap, cur, rfl, _, _, hnc, _⟩
    · exact run_append_none ht hte.info ty w none 0 0 (Nat.le_refl _)
    · exact run_append_none ht hte.info ty w _ n cap hnc
  · obtain ⟨v', w', h1, h2, h3, _, h5⟩ := run_append_own_at (P := P) w 0 t ty e i z ti.size ti.bytes ht hte.info hte.zero hte.size hte.bytes hzc hsz v n xs ho ⟨b, off, none⟩ ys.length c news hs.len
      (fun j q hq => by rw [addr_add]; exact hcell j q hq) hs.one hm hb (Nat.zero_le _)
    exact ⟨v', w', h1, h2, h3, h5⟩

theorem rows_append {M : Mem} {w : World} {sz : Nat} {rows ys : List (List I)} {xs news : List Value} (hl : xs.length = rows.length * sz)
    (hx : ∀ i r j x, rows[i]? = some r → r[j]? = some x → ∃ u, xs[i * sz + j]? = some u ∧ u.oneCell' = true ∧ RI w M.S x u)
    (hy : ∀ i r j x, ys[i]? = some r → r[j]? = some x → ∃ u, news[i * sz + j]? = some u ∧ u.oneCell' = true ∧ RI w M.S x u) :
    ∀ i r j x, (rows ++ ys)[i]? = some r → r[j]? = some x → ∃ u, (xs ++ news)[i * sz + j]? = some u ∧ u.oneCell' = true ∧ RI w M.S x u := by
  intro i r j x hi hj
  by_cases h : i < rows.length
  · rw [List.getElem?_append_left h] at hi
    obtain ⟨u, a1, a2⟩ := hx i r j x hi hj
    exact ⟨u, by rw [List.getElem?_append_left (List.getElem?_eq_some_iff.1 a1).1]; exact a1, a2⟩
  · rw [List.getElem?_append_right (by omega)] at hi
    obtain ⟨u, a1, a2⟩ := hy _ r j x hi hj
    refine ⟨u, ?_, a2⟩
    have h3 : rows.length * sz ≤ i * sz := Nat.mul_le_mul_right _ (by omega)
    rw [List.getElem?_append_right (by omega), ← a1]
    congr 1
    rw [Nat.sub_mul]
    omega

def appendP (P : Program) (s : St) (k : Nat) (t : TypeId) (x y : D) (K : D → St → Prop) : Prop :=
  match tiOf P t with
  | some { k := .sl e, .. } => (match tiOf P e, rowsOf s y with
    | some ti, some ys => 0 < ti.size ∧ szOk s ti.size y ∧ (match x with
      | .os l => (match hlook s.hp l with
        | some (.arr ty sz rows) => ty = e ∧ sz = ti.size ∧ l ∉ s.df ∧ (rows.length + ys.length) * ti.bytes ≤ 140737488355328 ∧ rows.length + ys.length ≤ 9223372036854775807 ∧
            K (.os l) { s.kill l with hp := hupd (s.kill l).hp l (.arr e sz (rows ++ ys)) }
        | _ => False)
      | .i (.lit (.slice none 0 0)) => ys.length * ti.bytes ≤ 140737488355328 ∧ ys.length ≤ 9223372036854775807 ∧ K (.os (.l k)) { s with hp := hupd s.hp (.l k) (.arr e ti.size ys), nx := k + 1 }
      | .i (.sl true sz rows) => sz = ti.size ∧ ys ≠ [] ∧ (rows.length + ys.length) * ti.bytes ≤ 140737488355328 ∧ rows.length + ys.length ≤ 9223372036854775807 ∧
            K (.os (.l k)) { s with hp := hupd s.hp (.l k) (.arr e sz (rows ++ ys)), nx := k + 1 }
      | _ => False)
    | _, _ => False)
  | _ => False

theorem own_one {w : World} {e : TypeId} {sz n : Nat} {v : Value} {xs : List Value} (h : w.ownsRow 0 e sz v n xs) : v.oneCell' = true := by
  rcases h.2 with ⟨rfl, _⟩ | ⟨g, cap, cur, rfl, _⟩ <;> rfl

theorem own_lt {w : World} {e : TypeId} {sz n : Nat} {v : Value} {xs : List Value} (h : w.ownsRow 0 e sz v n xs) (b : Nat) (hb : v.ownBlock = some b) : b < w.heap.size := by
  rcases h.2 with ⟨rfl, _⟩ | ⟨g, cap, cur, rfl, _, hg, _⟩
  · simp [Value.ownBlock] at hb
  · have : g = b := by simpa [Value.ownBlock] using hb
    subst this
    exact (Array.getElem?_eq_some_iff.1 hg).1

theorem append_ok {P : Program} {M : Mem} {s : St} {w : World} {a : Act} (hr : Rep M s w a) (k : Nat) (hk : s.nx ≤ k) {t ty : TypeId} {x y : D} {K : D → St → Prop} (h : appendP P s k t x y K)
    {v u : Value} (hv : R M w x v) (hu : R M w y u) : ∃ q w' M' s' d, (Builtin.append_ #[t, t] ty #[v, u]).run P w = .ok q w' ∧ Rep M' s' w' a ∧ R M' w' d q ∧ Ext M w M' w' ∧ K d s' := by
  unfold appendP at h
  split at h
  case h_2 => exact h.elim
  rename_i tsize tbytes e tz htt
  obtain ⟨it, dt, zt, ht⟩ := tiOf_spec htt
  have hte : P.underlying t = some (.slice e) := by
    have := ht.k
    rw [ht.und]
    simp only at this
    cases dt <;> simp [kOf] at this
    subst this; rfl
  split at h
  case h_2 => exact h.elim
  rename_i ti ys hti hys
  obtain ⟨i, d, z, hi⟩ := tiOf_spec hti
  obtain ⟨hsz, hszo, h⟩ := h
  obtain ⟨news, hsrc⟩ := src_ok hr hu hys hszo
  split at h
  · -- the state's own
    rename_i l
    split at h
    case h_2 => exact h.elim
    rename_i ty' sz rows hds
    obtain ⟨rfl, rfl, hdf, hb, hm, hK⟩ := h
    cases hv with
    | os _ _ hl hone =>
    have hbb := hr.hp l _ hds
    rw [hl] at hbb
    obtain ⟨xs, ho, hz, hx⟩ := hbb
    obtain ⟨v', w', h1, h2, h3, h5⟩ := append_own hte hi hsz ty ho hsrc hb (by simpa [maxLen] using hm)
    have hturn : Turns M l w w' := ⟨h3.os, h3.tape, h3.output, h3.size, fun b hb hn => h3.block b hb (fun e => hn (by rw [hl]; exact e.symm))⟩
    have hS : ∀ n, M.S n → w'.heap[n]? = w.heap[n]? := fun n hn => hturn.keep n (hr.inv.slt n hn) (hr.inv.sep n hn l)
    have hp : ∀ n, (Place.own v').has n → ((M.μ l).has n ∨ w.heap.size ≤ n) ∧ n < w'.heap.size := by
      intro n hn
      refine ⟨?_, own_lt h2 n hn⟩
      rcases h5 with h5 | h5
      · left; rw [hl]; show v.ownBlock = some n; rw [← h5]; exact hn
      · right; rw [Place.has, h5] at hn; exact Nat.le_of_eq (Option.some.inj hn)
    have hrep := hr.turn l (.own v') (.arr ty' ti.size (rows ++ ys)) hturn hp
      ⟨xs ++ news, by rw [List.length_append]; exact h2, fun r hr' => (List.mem_append.1 hr').elim (hz r) (hsrc.rows r), rows_append (M := M.set l (.own v')) ho.1
        (fun i r j x hi hj => by obtain ⟨q, a1, a2, a3⟩ := hx i r j x hi hj; exact ⟨q, a1, a2, a3.mono hS (fun _ q => q)⟩)
        (fun i r j x hi hj => by obtain ⟨q, a1, a2, a3⟩ := hsrc.at_ i r j x hi hj; exact ⟨q, a1, a2, a3.mono hS (fun _ q => q)⟩)⟩
      (fun q hq e => hdf (e ▸ hq)) (fun q e => hr.nx q (by rw [← e, hl]; simp))
    exact ⟨v', w', _, _, .os l, h1, hrep, .os l v' (by simp [Mem.set]) (own_one h2), hturn.ext _ (fun b hb => (hp b hb).1), hK⟩
  · -- nil
    obtain ⟨hb, hm, hK⟩ := h
    cases hv with
    | i _ _ hv =>
    cases hv
    obtain ⟨v', w', h1, h2, h3, h5⟩ := append_own (n := 0) (xs := []) hte hi hsz ty (World.ownsRow_nil w 0 e ti.size) hsrc (by simpa using hb) (by simpa [maxLen] using hm)
    have hkeep : ∀ n, n < w.heap.size → w'.heap[n]? = w.heap[n]? := fun n hn => h3.block n hn (by simp [Value.ownBlock])
    have hS : ∀ n, M.S n → w'.heap[n]? = w.heap[n]? := fun n hn => hkeep n (hr.inv.slt n hn)
    obtain ⟨g1, g2⟩ := hr.fresh (w' := w') k hk (.own v') (.arr e ti.size ys) h3.os h3.tape h3.output h3.size hkeep
      (fun n hn => ⟨by rcases h5 with h5 | h5
                       · rw [Place.has, h5] at hn; simp [Value.ownBlock] at hn
                       · rw [Place.has, h5] at hn; exact Nat.le_of_eq (Option.some.inj hn), own_lt h2 n hn⟩)
      ⟨news, by simpa using h2, hsrc.rows, fun i r j x hi hj => by obtain ⟨q, a1, a2, a3⟩ := hsrc.at_ i r j x hi hj; exact ⟨q, a1, a2, a3.mono hS (fun _ q => q)⟩⟩
    exact ⟨v', w', _, _, _, h1, g1, .os _ v' (by simp [Mem.set]) (own_one h2), g2, hK⟩
  · -- full
    rename_i sz rows
    obtain ⟨rfl, hne, hb, hm, hK⟩ := h
    cases hv with
    | i _ _ hv =>
    obtain ⟨olds, hso⟩ := src_of_RI hv
    have hyl : 0 < ys.length := List.length_pos_iff.2 hne
    obtain ⟨b, off, c, rfl, hyc, hcm, hcell, _⟩ : ∃ b off c, u = .slice (some ⟨b, off, none⟩) ys.length c ∧ ys.length ≤ c ∧ c ≤ maxLen ∧ (∀ j q, news[j]? = some q → w.cell? ⟨b, off + j, none⟩ = some q) ∧ (M.S b ∨ ∃ l, (M.μ l).has b) := by
      rcases hsrc.val with ⟨_, h⟩ | h
      · exact absurd h hne
      · exact h
    have hzc : z.cells.size = ti.size := by rw [← Array.length_toList, hi.cells]; simpa using hi.len
    have hm' : rows.length + ys.length ≤ maxLen := by simpa [maxLen] using hm
    have fin : ∀ (cap old : Nat), cap = grownCap w (rows.length + ys.length) old e →
        let w' := w.drew.alloc (.cells (olds.toArray ++ news.toArray ++ Builtin.zeroCells z.cells (cap - (rows.length + ys.length))) e)
        (Builtin.append_ #[t, t] ty #[v, .slice (some ⟨b, off, none⟩) ys.length c]).run P w = .ok (.slice (some ⟨w.heap.size, 0, none⟩) (rows.length + ys.length) cap) w' →
        ∃ q w' M' s' d, (Builtin.append_ #[t, t] ty #[v, .slice (some ⟨b, off, none⟩) ys.length c]).run P w = .ok q w' ∧ Rep M' s' w' a ∧ R M' w' d q ∧ Ext M w M' w' ∧ K d s' := by
      intro cap old hcap w' hrun
      have hge : rows.length + ys.length ≤ cap := hcap ▸ grownCap_ge w _ old e
      have hle : cap ≤ maxLen := hcap ▸ grownCap_le_maxLen w _ old e hm'
      have hkeep : ∀ n, n < w.heap.size → w'.heap[n]? = w.heap[n]? := fun n hn => halloc_old w.drew _ n hn
      have hS : ∀ n, M.S n → w'.heap[n]? = w.heap[n]? := fun n hn => hkeep n (hr.inv.slt n hn)
      have ho : w'.ownsRow 0 e ti.size (.slice (some ⟨w.heap.size, 0, none⟩) (rows.length + ys.length) cap) (rows.length + ys.length) (olds ++ news) := by
        refine ⟨by rw [List.length_append, hso.len, hsrc.len, Nat.add_mul], .inr ⟨w.heap.size, cap, _, rfl, Nat.zero_le _, halloc_new w.drew _, hge, hle, ?_, ?_⟩⟩
        · simp only [Array.size_append, List.size_toArray, size_zeroCells, hzc, hso.len, hsrc.len, ← Nat.add_mul]
          congr 1
          omega
        · simp only [Array.toList_append, List.append_assoc]
          rw [← List.append_assoc, List.take_left' (by rw [List.length_append, hso.len, hsrc.len, Nat.add_mul])]
      obtain ⟨g1, g2⟩ := hr.fresh (w' := w') k hk (.own (.slice (some ⟨w.heap.size, 0, none⟩) (rows.length + ys.length) cap)) (.arr e ti.size (rows ++ ys)) rfl rfl rfl (by simp [w']) hkeep
        (fun n hn => ⟨Nat.le_of_eq (Option.some.inj hn), own_lt ho n hn⟩)
        ⟨olds ++ news, by rw [List.length_append]; exact ho, fun r hr' => (List.mem_append.1 hr').elim (hso.rows r) (hsrc.rows r), rows_append hso.len
          (fun i r j x hi hj => by obtain ⟨q, a1, a2, a3⟩ := hso.at_ i r j x hi hj; exact ⟨q, a1, a2, a3.mono hS (fun _ q => q)⟩)
          (fun i r j x hi hj => by obtain ⟨q, a1, a2, a3⟩ := hsrc.at_ i r j x hi hj; exact ⟨q, a1, a2, a3.mono hS (fun _ q => q)⟩)⟩
      exact ⟨_, w', _, _, _, hrun, g1, .os _ _ (by simp [Mem.set]) rfl, g2, hK⟩
    have hbi : (rows.length + ys.length) * i.bytes ≤ 140737488355328 := by rw [hi.bytes]; exact hb
    cases hv with
    | nil =>
      have hlen : olds = [] := List.eq_nil_of_length_eq_zero (by simpa using hso.len)
      subst hlen
      have hrun := run_append_nil (P := P) w t ty e i z hte hi.info hi.zero ⟨b, off, none⟩ ys.length c news (by rw [hi.size]; exact hsrc.len) (fun j q hq => by rw [addr_add]; exact hcell j q hq) hyl
        (by simp only [List.length_nil, Nat.zero_add] at hm; omega) (by simp only [List.length_nil, Nat.zero_add] at hbi; omega)
      refine fin (grownCap w ys.length 0 e) 0 (by simp) ?_
      simpa using hrun
    | sl f sz rows b0 off0 cap V hb0 hn hc hf hz h1 h2 =>
      have hcap : cap = rows.length := hf rfl
      subst hcap
      have hso2 : ∀ j q, olds[j]? = some q → w.cell? ((⟨b0, off0, none⟩ : Addr).add j) = some q := by
        intro j q hq
        rw [addr_add]
        rcases hso.val with ⟨h, _⟩ | ⟨b', off', c', he, _, _, hc', _⟩
        · cases h
        · cases he; exact hc' j q hq
      have hrun := run_append_grow (P := P) w t ty e i z hte hi.info hi.zero ⟨b0, off0, none⟩ rows.length rows.length olds (by rw [hi.size]; exact hso.len) hso2 ⟨b, off, none⟩ ys.length c news (by rw [hi.size]; exact hsrc.len)
        (fun j q hq => by rw [addr_add]; exact hcell j q hq) (by omega) (by omega) (growslice_fits (by omega) hbi)
      exact fin _ rows.length rfl hrun
  · exact h.elim

end Go.Aw
