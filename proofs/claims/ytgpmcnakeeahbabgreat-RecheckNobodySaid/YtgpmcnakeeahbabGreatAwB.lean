/-
  Steps of the abstract state: what is known of types; slots that are written; memory that is made, written, forgotten.
-/
import Derived.Test.YtgpmcnakeeahbabGreatAwA
namespace Go.Aw

/-! ### Types -/
inductive Z where
  | zb | zn (k : IntKind) | zs | zp | zl | zm | zf | zi
  deriving DecidableEq

def Z.val : Z → Value
  | .zb => .bool false
  | .zn k => .int k 0
  | .zs => .string ⟨#[]⟩
  | .zp => .pointer none
  | .zl => .slice none 0 0
  | .zm => .map none
  | .zf => .nilFunc
  | .zi => .nilIface

def Z.of : Value → Option Z
  | .bool b => if b then none else some .zb
  | .int k x => if x = 0 then some (.zn k) else none
  | .string s => match s with | ⟨⟨[]⟩⟩ => some .zs | _ => none
  | .pointer none => some .zp
  | .slice none 0 0 => some .zl
  | .map none => some .zm
  | .nilFunc => some .zf
  | .nilIface => some .zi
  | _ => none

theorem Z.of_val {v : Value} {z : Z} (h : Z.of v = some z) : v = z.val := by
  unfold Z.of at h
  split at h <;> (try (split at h)) <;> simp_all [Z.val] <;> (try (subst h; rfl)) <;> (try (cases h; rfl))

inductive TK where
  | oth | bool | str | ifc | int (k : IntKind) | sl (e : TypeId) | arr (n : Nat) (e : TypeId) | st (fs : List (Nat × TypeId))
  deriving DecidableEq

structure TI where
  size : Nat
  bytes : Nat
  k : TK
  z : List Z
  deriving DecidableEq

def TK.agg : TK → Bool
  | .arr _ _ => true
  | .st _ => true
  | _ => false

def TI.agg (t : TI) : Bool := t.k.agg

def kOf : TypeDesc → TK
  | .bool => .bool
  | .int k => .int k
  | .string => .str
  | .slice e => .sl e
  | .array n e => .arr n e
  | .struct F => .st (F.toList.map fun f => (f.offset, f.type))
  | .interface _ => .ifc
  | _ => .oth

def isAggV : Value → Bool
  | .agg _ => true
  | _ => false

def tiOf (P : Program) (t : TypeId) : Option TI :=
  match P.info? t, P.underlying t with
  | some i, some d =>
    match i.zero with
    | some z =>
      match z.cells.toList.mapM Z.of with
      | some zs => if zs.length = i.size ∧ isAggV z = (kOf d).agg then some { size := i.size, bytes := i.bytes, k := kOf d, z := zs } else none
      | none => none
    | none => none
  | _, _ => none

structure TIs (P : Program) (t : TypeId) (ti : TI) (i : TypeInfo) (d : TypeDesc) (z : Value) : Prop where
  info : P.info? t = some i
  und : P.underlying t = some d
  size : i.size = ti.size
  bytes : i.bytes = ti.bytes
  zero : i.zero = some z
  cells : z.cells.toList = ti.z.map Z.val
  k : ti.k = kOf d
  len : ti.z.length = ti.size
  ag : isAggV z = ti.agg

theorem mapM_of : ∀ (l : List Value) (zs : List Z), l.mapM Z.of = some zs → l = zs.map Z.val := by
  intro l
  induction l with
  | nil => intro zs h; simp at h; subst h; rfl
  | cons v l ih =>
    intro zs h
    simp only [List.mapM_cons, Option.bind_eq_bind, Option.bind_eq_some_iff, Option.pure_def, Option.some.injEq] at h
    obtain ⟨z, hz, zs', hzs, rfl⟩ := h
    simp [ih zs' hzs, Z.of_val hz]

theorem tiOf_spec {P : Program} {t : TypeId} {ti : TI} (h : tiOf P t = some ti) : ∃ i d z, TIs P t ti i d z := by
  unfold tiOf at h
  split at h
  · rename_i i d hi hd
    split at h
    · rename_i z hz
      split at h
      · rename_i zs hzs
        split at h
        · rename_i hc
          cases h
          exact ⟨i, d, z, hi, hd, rfl, rfl, hz, mapM_of _ _ hzs, rfl, hc.1, hc.2⟩
        · cases h
      · cases h
    · cases h
  · cases h

/-! ### Slots -/
def St.put (s : St) : Option Tmp → D → St
  | none, _ => s
  | some t, d => { s with tm := upd s.tm t d }

def St.room (s : St) : Option Tmp → Prop
  | none => True
  | some t => t < s.n

theorem Rep.put {M : Mem} {s : St} {w : World} {a : Act} (h : Rep M s w a) {dst : Option Tmp} {d : D} {v : Value} (hd : R M w d v) (hr : s.room dst) : Rep M (s.put dst d) w (a.put dst v) := by
  cases dst with
  | none => exact h
  | some t =>
    have ht : t < a.tmps.size := by rw [h.sz]; exact hr
    refine ⟨h.inv, by simpa [Act.put, St.put] using h.sz, fun u e hu => ?_, h.hp, h.nx, h.df⟩
    simp only [St.put, look_upd] at hu
    simp only [Act.put]
    by_cases htu : t = u
    · subst htu
      rw [if_pos rfl] at hu
      cases hu
      simpa [Array.getD, ht] using hd
    · rw [if_neg htu] at hu
      have := h.tm u e hu
      have e : (a.tmps.setIfInBounds t v).getD u undef = a.tmps.getD u undef := by
        simp [Array.getD_eq_getD_getElem?, Array.getElem?_setIfInBounds_ne htu]
      rw [e]
      exact this

/-- What an operand's value is. -/
theorem Rep.val {M : Mem} {s : St} {w : World} {a : Act} (h : Rep M s w a) (x : Operand) : R M w (valD s x) (a.eval x) := by
  cases x with
  | tmp t =>
    simp only [valD]
    cases hl : look s.tm t with
    | none => exact .any _
    | some d => exact h.tm t d hl
  | const v =>
    simp only [valD, Act.eval, constD]
    split
    · rename_i cs
      split
      · rename_i hc
        have hl : ∀ c, c ∈ cs.toList → litOk c := fun c hm => litB_ok (List.all_eq_true.1 hc c hm)
        refine .agg _ _ (by simp) (fun i d hi => ?_) (fun i d hi => ?_)
        · simp only [List.getElem?_map, Array.getElem?_toList, Option.map_eq_some_iff] at hi
          obtain ⟨c, hc1, rfl⟩ := hi
          have := hl c (by rw [Array.mem_toList_iff]; exact Array.mem_of_getElem? hc1)
          rw [show cs.getD i undef = c by simp [Array.getD_eq_getD_getElem?, hc1]]
          cases c <;> simp_all [litOk, Value.oneCell']
        · simp only [List.getElem?_map, Array.getElem?_toList, Option.map_eq_some_iff] at hi
          obtain ⟨c, hc1, rfl⟩ := hi
          have := hl c (by rw [Array.mem_toList_iff]; exact Array.mem_of_getElem? hc1)
          rw [show cs.getD i undef = c by simp [Array.getD_eq_getD_getElem?, hc1]]
          exact .i _ _ (.lit _ this)
      · exact .any _
    · split
      · rename_i hb
        exact .i _ _ (.lit _ (litB_ok hb))
      · exact .any _
  | func f => exact .fn _ _ _ _ _ rfl rfl (fun i d hi => by simp at hi) (fun i d hi => by simp at hi)
  | global g => exact .any _

/-! ### Forgetting a part of memory -/
mutual
def D.kill (l : Loc) : D → D
  | .i x => .i x
  | .agg ds => .agg (D.killL l ds)
  | .pt k o => if k = l then .any else .pt k o
  | .el r o => .el r o
  | .ea k sz j o => if k = l then .any else .ea k sz j o
  | .os k => if k = l then .any else .os k
  | .fn f ds es => .fn f (D.killL l ds) (D.killL l es)
  | .yl k => if k = l then .any else .yl k
  | .ifc t d => .ifc t (D.kill l d)
  | .tup ds => .tup (D.killL l ds)
  | .un => .un
  | .any => .any
def D.killL (l : Loc) : List D → List D
  | [] => []
  | d :: r => D.kill l d :: D.killL l r
end

theorem killL_get (l : Loc) : ∀ (ds : List D) (i : Nat), (D.killL l ds)[i]? = (ds[i]?).map (D.kill l)
  | [], i => by simp [D.killL]
  | d :: r, 0 => by simp [D.killL]
  | d :: r, i + 1 => by simp [D.killL, killL_get l r i]

theorem killL_length (l : Loc) : ∀ ds : List D, (D.killL l ds).length = ds.length
  | [] => rfl
  | d :: r => by simp [D.killL, killL_length l r]

def Blk.kill (l : Loc) : Blk → Blk
  | .cells ty ds => .cells ty (D.killL l ds)
  | b => b

theorem R.kill {M M' : Mem} {w w' : World} {l : Loc} (hw : ∀ b, M.S b → w'.heap[b]? = w.heap[b]?) (hS : ∀ b, M.S b → M'.S b)
    (hμ : ∀ k, k ≠ l → M.μ k ≠ .dead → M'.μ k = M.μ k) {d : D} {v : Value} (h : R M w d v) : R M' w' (d.kill l) v := by
  induction h with
  | i x v h => exact .i x v (h.mono hw hS)
  | agg ds cs hs h1 h ih =>
    refine .agg _ cs (by rw [hs, killL_length]) (fun i d hi => ?_) (fun i d hi => ?_)
    · rw [killL_get, Option.map_eq_some_iff] at hi
      obtain ⟨d', hd', rfl⟩ := hi
      exact h1 i d' hd'
    · rw [killL_get, Option.map_eq_some_iff] at hi
      obtain ⟨d', hd', rfl⟩ := hi
      exact ih i d' hd'
  | pt k b o h =>
    simp only [D.kill]
    split
    · exact .any _
    · rename_i hk; exact .pt k b o ((hμ k hk (by rw [h]; simp)).trans h)
  | el row o b off V hb h1 h2 =>
    exact .el row o b off V (hS _ hb) (fun j x hj => by
      obtain ⟨a1, a2⟩ := h1 j x hj
      exact ⟨(cell_of_heap (a := ⟨b, off + j, none⟩) (hw b hb)).trans a1, a2⟩) (fun j x hj => (h2 j x hj).mono hw hS)
  | ea k sz i o v b h hb =>
    simp only [D.kill]
    split
    · exact .any _
    · rename_i hk; exact .ea k sz i o v b ((hμ k hk (by rw [h]; simp)).trans h) hb
  | os k v h hv =>
    simp only [D.kill]
    split
    · exact .any _
    · rename_i hk; exact .os k v ((hμ k hk (by rw [h]; simp)).trans h) hv
  | fn f first caps v1 v2 h1 h2 r1 r2 ih1 ih2 =>
    refine .fn f _ _ v1 v2 (by rw [h1, killL_length]) (by rw [h2, killL_length]) (fun i d hi => ?_) (fun i d hi => ?_)
    · rw [killL_get, Option.map_eq_some_iff] at hi
      obtain ⟨d', hd', rfl⟩ := hi
      exact ih1 i d' hd'
    · rw [killL_get, Option.map_eq_some_iff] at hi
      obtain ⟨d', hd', rfl⟩ := hi
      exact ih2 i d' hd'
  | yl k b F h hb =>
    simp only [D.kill]
    split
    · exact .any _
    · rename_i hk; exact .yl k b F ((hμ k hk (by rw [h]; simp)).trans h) hb
  | ifc t d v h ih => exact .ifc t _ v ih
  | tup ds vs hs h ih =>
    refine .tup _ vs (by rw [hs, killL_length]) (fun i d hi => ?_)
    rw [killL_get, Option.map_eq_some_iff] at hi
    obtain ⟨d', hd', rfl⟩ := hi
    exact ih i d' hd'
  | un => exact .un
  | any v => exact .any v

theorem look_map {α β : Type} (f : α → β) (l : List (Nat × α)) (t : Nat) : look (l.map fun p => (p.1, f p.2)) t = (look l t).map f := by
  induction l with
  | nil => rfl
  | cons p r ih =>
    obtain ⟨k, x⟩ := p
    simp only [List.map_cons, look, ih]
    split <;> rfl

theorem hlook_map (f : Blk → Blk) (l : List (Loc × Blk)) (t : Loc) : hlook (l.map fun p => (p.1, f p.2)) t = (hlook l t).map f := by
  induction l with
  | nil => rfl
  | cons p r ih =>
    obtain ⟨k, x⟩ := p
    simp only [List.map_cons, hlook, ih]
    split <;> rfl

def St.kill (s : St) (l : Loc) : St := { s with tm := s.tm.map fun p => (p.1, p.2.kill l), hp := s.hp.map fun p => (p.1, p.2.kill l) }

/-! ### One part of memory changes -/
def Mem.set (M : Mem) (l : Loc) (p : Place) : Mem := { M with μ := fun k => if k = l then p else M.μ k }

/-- What a part of memory holds outlives a step that leaves its blocks. -/
theorem RB.mono {M M' : Mem} {w w' : World} {p : Place} (hw : ∀ b, M.S b → w'.heap[b]? = w.heap[b]?) (hp : ∀ b, p.has b → w'.heap[b]? = w.heap[b]?) (hS : ∀ b, M.S b → M'.S b)
    (f : D → D) (hf : ∀ d v, R M w d v → R M' w' (f d) v) {b : Blk} (h : RB M w b p) :
    RB M' w' (match b with | .cells ty ds => .cells ty (ds.map f) | b => b) p := by
  cases b with
  | cells ty ds =>
    cases p with
    | blk n =>
      obtain ⟨c, h1, h2, h3⟩ := h
      refine ⟨c, (hp n rfl).trans h1, by simpa using h2, fun i d hi => ?_⟩
      rw [List.getElem?_map, Option.map_eq_some_iff] at hi
      obtain ⟨d', hd', rfl⟩ := hi
      exact ⟨(h3 i d' hd').1, hf _ _ (h3 i d' hd').2⟩
    | dead => exact h.elim
    | own v => exact h.elim
    | res F => exact h.elim
  | arr ty sz rows =>
    cases p with
    | own v =>
      obtain ⟨xs, h1, h2, h3⟩ := h
      refine ⟨xs, ⟨h1.1, ?_⟩, h2, fun i r j x hi hj => ?_⟩
      · rcases h1.2 with h | ⟨g, cap, cur, rfl, hg, hh, r⟩
        · exact .inl h
        · exact .inr ⟨g, cap, cur, rfl, hg, (hp g rfl).trans hh, r⟩
      · obtain ⟨u, a1, a2, a3⟩ := h3 i r j x hi hj
        exact ⟨u, a1, a2, a3.mono hw hS⟩
    | dead => exact h.elim
    | blk n => exact h.elim
    | res F => exact h.elim
  | dfr =>
    cases p with
    | blk n => exact (hp n rfl).trans h
    | dead => exact h.elim
    | own v => exact h.elim
    | res F => exact h.elim
  | res Φ =>
    cases p with
    | res F => exact ⟨h.2 w' (fun b hb => hp b hb), fun w2 h2 => h.2 w2 (fun b hb => (h2 b hb).trans (hp b hb))⟩
    | dead => exact h.elim
    | blk n => exact h.elim
    | own v => exact h.elim

theorem kill_eq_map (l : Loc) (ds : List D) : D.killL l ds = ds.map (D.kill l) := by
  induction ds with
  | nil => rfl
  | cons d r ih => simp [D.killL, ih]

theorem RB.kill {M M' : Mem} {w w' : World} {p : Place} {l : Loc} (hw : ∀ b, M.S b → w'.heap[b]? = w.heap[b]?) (hp : ∀ b, p.has b → w'.heap[b]? = w.heap[b]?) (hS : ∀ b, M.S b → M'.S b)
    (hμ : ∀ k, k ≠ l → M.μ k ≠ .dead → M'.μ k = M.μ k) {b : Blk} (h : RB M w b p) : RB M' w' (b.kill l) p := by
  have := RB.mono (M' := M') hw hp hS (D.kill l) (fun d v hd => hd.kill hw hS hμ) h
  cases b <;> first | exact this | (simp only [Blk.kill, kill_eq_map]; exact this)

theorem Inv.set {M : Mem} {w w' : World} (h : Inv M w) (l : Loc) (p : Place) (hsz : w.heap.size ≤ w'.heap.size)
    (hp : ∀ b, p.has b → ((M.μ l).has b ∨ w.heap.size ≤ b) ∧ b < w'.heap.size) : Inv (M.set l p) w' where
  inj k k' b hk hk' := by
    simp only [Mem.set] at hk hk'
    by_cases e : k = l <;> by_cases e' : k' = l
    · rw [e, e']
    · rw [if_pos e] at hk
      rw [if_neg e'] at hk'
      rcases (hp b hk).1 with h1 | h1
      · exact absurd (h.inj _ _ _ h1 hk') (fun x => e' x.symm)
      · have := h.lt _ _ hk'
        omega
    · rw [if_neg e] at hk
      rw [if_pos e'] at hk'
      rcases (hp b hk').1 with h1 | h1
      · exact absurd (h.inj _ _ _ h1 hk) (fun x => e x.symm)
      · have := h.lt _ _ hk
        omega
    · rw [if_neg e] at hk
      rw [if_neg e'] at hk'
      exact h.inj _ _ _ hk hk'
  lt k b hk := by
    simp only [Mem.set] at hk
    by_cases e : k = l
    · rw [if_pos e] at hk; exact (hp b hk).2
    · rw [if_neg e] at hk; exact Nat.lt_of_lt_of_le (h.lt _ _ hk) hsz
  sep b hb k hk := by
    simp only [Mem.set] at hk
    by_cases e : k = l
    · rw [if_pos e] at hk
      rcases (hp b hk).1 with h1 | h1
      · exact h.sep b hb _ h1
      · have := h.slt b hb; omega
    · rw [if_neg e] at hk; exact h.sep b hb _ hk
  slt b hb := Nat.lt_of_lt_of_le (h.slt b hb) hsz

/-- Of two worlds: only the blocks of one part, and new ones, differ. -/
structure Turns (M : Mem) (l : Loc) (w w' : World) : Prop where
  os : w'.os = w.os
  tape : w'.tape = w.tape
  output : w'.output = w.output
  size : w.heap.size ≤ w'.heap.size
  keep : ∀ b, b < w.heap.size → ¬ (M.μ l).has b → w'.heap[b]? = w.heap[b]?

theorem Turns.ext {M : Mem} {l : Loc} {w w' : World} (h : Turns M l w w') (p : Place) (hp : ∀ b, p.has b → (M.μ l).has b ∨ w.heap.size ≤ b) : Ext M w (M.set l p) w' where
  os := h.os
  tape := h.tape
  output := h.output
  size := h.size
  keep b hb hn := h.keep b hb (hn l)
  s b hb := hb
  new k b hk := by
    simp only [Mem.set] at hk
    by_cases e : k = l
    · rw [if_pos e] at hk
      rcases hp b hk with h1 | h1
      · exact .inl ⟨l, h1⟩
      · exact .inr h1
    · rw [if_neg e] at hk; exact .inl ⟨k, hk⟩
  snew b hb := .inl hb

/-- One part of memory has turned; nothing else that is known leads to it. -/
theorem Rep.turn {M : Mem} {s : St} {w w' : World} {a : Act} (h : Rep M s w a) (l : Loc) (p : Place) (b : Blk) (ht : Turns M l w w')
    (hp : ∀ n, p.has n → ((M.μ l).has n ∨ w.heap.size ≤ n) ∧ n < w'.heap.size) (hb : RB (M.set l p) w' b p) (hdf : ∀ k, k ∈ s.df → k ≠ l) (hnx : ∀ k, l = .l k → k < s.nx) :
    Rep (M.set l p) { s.kill l with hp := hupd (s.kill l).hp l b } w' a := by
  have hμ : ∀ k, k ≠ l → M.μ k ≠ .dead → (M.set l p).μ k = M.μ k := fun k hk _ => by simp [Mem.set, hk]
  have hS : ∀ n, M.S n → (M.set l p).S n := fun _ x => x
  have hw : ∀ n, M.S n → w'.heap[n]? = w.heap[n]? := fun n hn => ht.keep n (h.inv.slt n hn) (h.inv.sep n hn l)
  refine ⟨h.inv.set l p ht.size hp, h.sz, fun t d hd => ?_, fun k c hk => ?_, fun k hk => ?_, ?_⟩
  · simp only [St.kill, look_map, Option.map_eq_some_iff] at hd
    obtain ⟨d', hd', rfl⟩ := hd
    exact (h.tm t d' hd').kill hw hS hμ
  · simp only [hlook_hupd] at hk
    by_cases e : l = k
    · subst e
      rw [if_pos rfl] at hk
      cases hk
      simpa [Mem.set] using hb
    · rw [if_neg e] at hk
      simp only [St.kill, hlook_map, Option.map_eq_some_iff] at hk
      obtain ⟨c', hc', rfl⟩ := hk
      have e' : (M.set l p).μ k = M.μ k := by show (if k = l then p else M.μ k) = M.μ k; rw [if_neg (fun x => e x.symm)]
      rw [e']
      refine RB.kill hw (fun n hn => ?_) hS hμ (h.hp k c' hc')
      exact ht.keep n (h.inv.lt _ _ hn) (fun hl => e (h.inv.inj _ _ _ hl hn))
  · simp only [Mem.set] at hk
    by_cases e : Loc.l k = l
    · exact hnx k e.symm
    · rw [if_neg e] at hk; exact h.nx k hk
  · obtain ⟨bs, h1, h2, h3⟩ := h.df
    refine ⟨bs, h1, h2, fun i k hk => ?_⟩
    obtain ⟨n, a1, a2⟩ := h3 i k hk
    have hne : k ≠ l := hdf k (List.mem_of_getElem? hk)
    exact ⟨n, a1, by simp [Mem.set, hne, a2]⟩

/-- The same where the place stays: nothing is forgotten. -/
theorem Rep.turn_same {M : Mem} {s : St} {w w' : World} {a : Act} (h : Rep M s w a) (l : Loc) (b : Blk) (ht : Turns M l w w') (hb : RB M w' b (M.μ l)) :
    Rep M { s with hp := hupd s.hp l b } w' a := by
  have hw : ∀ n, M.S n → w'.heap[n]? = w.heap[n]? := fun n hn => ht.keep n (h.inv.slt n hn) (h.inv.sep n hn l)
  refine ⟨⟨h.inv.inj, fun k n hk => Nat.lt_of_lt_of_le (h.inv.lt k n hk) ht.size, h.inv.sep, fun n hn => Nat.lt_of_lt_of_le (h.inv.slt n hn) ht.size⟩, h.sz,
    fun t d hd => (h.tm t d hd).mono hw (fun _ x => x) (fun _ _ => rfl), fun k c hk => ?_, h.nx, h.df⟩
  simp only [hlook_hupd] at hk
  by_cases e : l = k
  · subst e
    rw [if_pos rfl] at hk
    cases hk
    exact hb
  · rw [if_neg e] at hk
    have := RB.mono (M' := M) (w' := w') hw (fun n hn => ht.keep n (h.inv.lt _ _ hn) (fun hl => e (h.inv.inj _ _ _ hl hn))) (fun _ x => x) id (fun d v hd => hd.mono hw (fun _ x => x) (fun _ _ => rfl)) (h.hp k c hk)
    cases c <;> simpa using this

/-- A new part of memory. -/
theorem Rep.fresh {M : Mem} {s : St} {w w' : World} {a : Act} (h : Rep M s w a) (k : Nat) (hk : s.nx ≤ k) (p : Place) (b : Blk) (ho : w'.os = w.os) (htp : w'.tape = w.tape) (hou : w'.output = w.output)
    (hsz : w.heap.size ≤ w'.heap.size) (hkeep : ∀ n, n < w.heap.size → w'.heap[n]? = w.heap[n]?) (hp : ∀ n, p.has n → w.heap.size ≤ n ∧ n < w'.heap.size) (hb : RB (M.set (.l k) p) w' b p) :
    Rep (M.set (.l k) p) { s with hp := hupd s.hp (.l k) b, nx := k + 1 } w' a ∧ Ext M w (M.set (.l k) p) w' := by
  have hd : M.μ (.l k) = .dead := by
    cases e : M.μ (.l k) with
    | dead => rfl
    | _ => exact absurd (h.nx k (by rw [e]; simp)) (by omega)
  have hn : ∀ n, ¬ (M.μ (.l k)).has n := fun n hx => by rw [hd] at hx; exact hx
  have ht : Turns M (.l k) w w' := ⟨ho, htp, hou, hsz, fun n hx _ => hkeep n hx⟩
  have hw : ∀ n, M.S n → w'.heap[n]? = w.heap[n]? := fun n hx => hkeep n (h.inv.slt n hx)
  have hS : ∀ n, M.S n → (M.set (.l k) p).S n := fun _ x => x
  have hμ : ∀ l, M.μ l ≠ .dead → (M.set (.l k) p).μ l = M.μ l := by
    intro l hl
    have : l ≠ .l k := fun e => hl (e ▸ hd)
    simp [Mem.set, this]
  refine ⟨⟨h.inv.set (.l k) p hsz (fun n hx => ⟨.inr (hp n hx).1, (hp n hx).2⟩), h.sz, fun t d hx => (h.tm t d hx).mono hw hS hμ, fun l c hl => ?_, fun j hj => ?_, ?_⟩, ht.ext p fun n hx => .inr (hp n hx).1⟩
  · simp only [hlook_hupd] at hl
    by_cases e : Loc.l k = l
    · subst e
      rw [if_pos rfl] at hl
      cases hl
      simpa [Mem.set] using hb
    · rw [if_neg e] at hl
      have e' : (M.set (.l k) p).μ l = M.μ l := by show (if l = .l k then p else M.μ l) = M.μ l; rw [if_neg (fun x => e x.symm)]
      rw [e']
      have := RB.mono (M' := M.set (.l k) p) (w' := w') hw (fun n hx => hkeep n (h.inv.lt _ _ hx)) hS id (fun d v hd => hd.mono hw hS hμ) (h.hp l c hl)
      cases c <;> simpa using this
  · simp only [Mem.set] at hj
    by_cases e : Loc.l j = .l k
    · cases e; exact Nat.lt_succ_self _
    · rw [if_neg e] at hj; exact Nat.lt_succ_of_lt (Nat.lt_of_lt_of_le (h.nx j hj) hk)
  · obtain ⟨bs, h1, h2, h3⟩ := h.df
    refine ⟨bs, h1, h2, fun i l hl => ?_⟩
    obtain ⟨n, a1, a2⟩ := h3 i l hl
    have : l ≠ .l k := fun e => by rw [e, hd] at a2; simp at a2
    exact ⟨n, a1, by simp [Mem.set, this, a2]⟩

/-- Orders drawn from the tape change nothing that is known. -/
theorem Rep.drawn {M : Mem} {s : St} {w : World} {a : Act} (h : Rep M s w a) (k : Nat) : Rep M s { w with drawn := k } a ∧ Ext M w M { w with drawn := k } := by
  have hw : ∀ n : Nat, ({ w with drawn := k } : World).heap[n]? = w.heap[n]? := fun _ => rfl
  refine ⟨⟨⟨h.inv.inj, h.inv.lt, h.inv.sep, h.inv.slt⟩, h.sz, fun t d hd => (h.tm t d hd).mono (fun n _ => hw n) (fun _ x => x) (fun _ _ => rfl), fun l c hl => ?_, h.nx, h.df⟩,
    ⟨rfl, rfl, rfl, Nat.le_refl _, fun _ _ _ => rfl, fun _ x => x, fun l _ x => .inl ⟨l, x⟩, fun _ x => .inl x⟩⟩
  have := RB.mono (M' := M) (w' := { w with drawn := k }) (fun n _ => hw n) (fun n _ => hw n) (fun _ x => x) id (fun d v hd => hd.mono (fun n _ => hw n) (fun _ x => x) (fun _ _ => rfl)) (h.hp l c hl)
  cases c <;> simpa using this

end Go.Aw
