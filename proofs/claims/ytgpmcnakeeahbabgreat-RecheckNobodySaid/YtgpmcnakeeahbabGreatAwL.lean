/-
  Functions: their contracts, how they are entered and left, how they are called.
-/
import Derived.Test.YtgpmcnakeeahbabGreatAwK
namespace Go.Aw

/-! ### Results -/
def resP (P : Program) (s : St) : List ResultVar → (List D → Prop) → Prop
  | [], K => K []
  | .tmp t :: r, K => resP P s r fun l => K (valD s (.tmp t) :: l)
  | .cell t ty :: r, K => (match tiOf P ty with
    | some ti => loadP s ti (valD s (.tmp t)) fun d => resP P s r fun l => K (d :: l)
    | none => False)

def packD : List D → D
  | [d] => d
  | l => .tup l

theorem loadAt_asAddr {P : Program} {t : TypeId} {v u : Value} {w : World} (h : (Instr.loadAt t v).run P w = .ok u w) : (do loadVar t (← asAddr v) : Sem Value).run P w = .ok u w := by
  unfold Instr.loadAt at h
  cases v <;> simp [Instr.sureAddr] at h
  rename_i a
  cases a with
  | none => simp at h
  | some a => simpa [asAddr] using h

theorem resP_ok {P : Program} {M : Mem} {s : St} {w : World} {a : Act} (hr : Rep M s w a) : ∀ (l : List ResultVar) (K : List D → Prop), resP P s l K →
    ∃ ds vs, (l.mapM fun (x : ResultVar) => match x with | .tmp t => pure (a.tmps.getD t undef) | .cell p t => (do loadVar t (← asAddr (a.tmps.getD p undef)) : Sem Value)).run P w = .ok vs w ∧
      vs.length = ds.length ∧ (∀ i d, ds[i]? = some d → R M w d (vs.getD i undef)) ∧ K ds
  | [], K, h => ⟨[], [], by simp, rfl, by simp, h⟩
  | .tmp t :: r, K, h => by
    simp only [resP] at h
    obtain ⟨ds, vs, h1, h2, h3, h4⟩ := resP_ok hr r _ h
    refine ⟨_, a.tmps.getD t undef :: vs, ?_, by simp [h2], fun i d hi => ?_, h4⟩
    · simp only [List.mapM_cons, Sem.run_bind, Sem.run_pure, Result.andThen_ok, h1]
    · cases i with
      | zero => simp at hi; subst hi; exact hr.val (.tmp t)
      | succ i => exact h3 i d (by simpa using hi)
  | .cell p ty :: r, K, h => by
    simp only [resP] at h
    split at h
    case h_2 => exact h.elim
    rename_i ti hti
    obtain ⟨it, dt, zt, ht⟩ := tiOf_spec hti
    obtain ⟨y, u, e1, e2, e3⟩ := load_ok ht hr h (hr.val (.tmp p))
    obtain ⟨ds, vs, h1, h2, h3, h4⟩ := resP_ok hr r _ e3
    have e1' := loadAt_asAddr e1
    refine ⟨_, u :: vs, ?_, by simp [h2], fun i d hi => ?_, h4⟩
    · simp only [List.mapM_cons]
      rw [Sem.run_bind]
      have : (do loadVar ty (← asAddr (a.tmps.getD p undef)) : Sem Value).run P w = .ok u w := e1'
      rw [this]
      simp only [Result.andThen_ok, Sem.run_bind, h1, Sem.run_pure]
    · cases i with
      | zero => simp at hi; subst hi; exact e2
      | succ i => exact h3 i d (by simpa using hi)

theorem results_ok {P : Program} {M : Mem} {s : St} {w : World} {a : Act} (hr : Rep M s w a) (fn : Func) (K : D → Prop) (h : resP P s fn.results.toList fun l => K (packD l)) :
    ∃ d v, (results fn a.tmps).run P w = .ok v w ∧ R M w d v ∧ K d := by
  obtain ⟨ds, vs, h1, h2, h3, h4⟩ := resP_ok hr _ _ h
  have hm : (fn.results.mapM fun (x : ResultVar) => match x with | .tmp t => pure (a.tmps.getD t undef) | .cell p t => (do loadVar t (← asAddr (a.tmps.getD p undef)) : Sem Value)).run P w = .ok vs.toArray w := by
    rw [Array.mapM_eq_mapM_toList, Sem.run_map, h1]
    rfl
  refine ⟨packD ds, if h : vs.toArray.size = 1 then vs.toArray[0] else .tuple vs.toArray, ?_, ?_, h4⟩
  · unfold results
    rw [Sem.run_bind]
    exact congrArg (fun r => Result.andThen r fun (a : Array Value) w' => Sem.run P (pure (if h : a.size = 1 then a[0] else Value.tuple a)) w') hm
  · match ds, vs, h2, h3 with
    | [d], [v], _, h3 => simpa [packD] using h3 0 d rfl
    | [], [], _, _ => exact .tup _ _ rfl (by simp)
    | d :: e :: r, v :: u :: q, h2, h3 =>
      simp only [packD]
      rw [dif_neg (by simp)]
      exact .tup _ _ (by simpa using h2) (fun i x hi => by
        have := h3 i x hi
        rwa [show (v :: u :: q).toArray.getD i undef = (v :: u :: q).getD i undef by simp [Array.getD_eq_getD_getElem?, List.getD_eq_getElem?_getD]])

/-! ### Entering -/
def argsT : Nat → List D → List (Nat × D)
  | _, [] => []
  | k, d :: r => (k, d) :: argsT (k + 1) r

theorem look_argsT : ∀ (l : List D) (k t : Nat) (d : D), look (argsT k l) t = some d → k ≤ t ∧ l[t - k]? = some d
  | [], k, t, d, h => by simp [argsT, look] at h
  | e :: r, k, t, d, h => by
    simp only [argsT, look] at h
    split at h
    · rename_i hk
      subst hk
      cases h
      simp
    · rename_i hk
      obtain ⟨h1, h2⟩ := look_argsT r (k + 1) t d h
      refine ⟨by omega, ?_⟩
      rw [show t - k = (t - (k + 1)) + 1 by omega]
      simpa using h2

/-- How a function's body begins: its arguments, and what memory it was handed. -/
def start (fn : Func) (args : List D) (hp : List (Loc × Blk)) : St := { n := fn.ntmps, tm := argsT 0 args, hp := hp, nx := 0, df := [] }

/-- What is asked at the end of a function's body. -/
def leaves (P : Program) (fn : Func) (K Kp : D → St → Prop) : AExit → St → Prop
  | .normal, s => s.df = [] ∧ resP P s fn.results.toList fun l => K (packD l) s
  | .ret, s => s.df = [] ∧ resP P s fn.results.toList fun l => K (packD l) s
  | .panic d, s => s.df = [] ∧ Kp d s
  | _, _ => False

theorem WF_none : WF none = Fence.wide := rfl

theorem df_nil {M : Mem} {s : St} {w : World} {a : Act} (hr : Rep M s w a) (h : s.df = []) : a.defers = [] := by
  obtain ⟨bs, h1, h2, _⟩ := hr.df
  rw [h] at h2
  have : bs = [] := List.eq_nil_of_length_eq_zero (by simpa using h2)
  rw [h1, this]
  rfl

theorem calls_of_awp {P : Program} {g : FuncId} {fn : Func} {c : Code} (hf : P.funcs[g]? = some fn) (hb : fn.body = some c) {args : List D} {hp : List (Loc × Blk)} {K Kp : D → St → Prop}
    (h : AWP P none c (leaves P fn K Kp) (start fn args hp)) (hn : args.length ≤ fn.ntmps) {M : Mem} {w : World} {vs : Array Value} (hi : Inv M w) (hs : vs.size = args.length) (hv : ∀ i d, args[i]? = some d → R M w d (vs.getD i undef))
    (hhp : ∀ l b, hlook hp l = some b → RB M w b (M.μ l)) (hd : ∀ k, M.μ (.l k) = .dead) :
    Calls P g vs w fun e w' => ∃ M' s' d v, Ext M w M' w' ∧ R M' w' d v ∧ (∃ a, Rep M' s' w' a) ∧ ((e = .returned v ∧ K d s') ∨ (e = .panicked [{ v := v, recovered := false }] ∧ Kp d s')) := by
  refine calls_of_wp hf hb (wpIn_wide.1 (wpIn_mono (h M w _ ?_) ?_))
  · refine ⟨hi, by simp [start]; omega, fun t d ht => ?_, hhp, fun k hk => absurd (hd k) hk, ⟨[], rfl, rfl, fun i l hl => by simp [start] at hl⟩⟩
    obtain ⟨h1, h2⟩ := look_argsT args 0 t d ht
    simp only [Nat.sub_zero] at h2
    have hlt : t < vs.size := by rw [hs]; exact (List.getElem?_eq_some_iff.1 h2).1
    have := hv t d h2
    rwa [show (vs ++ Array.replicate (fn.ntmps - vs.size) undef).getD t undef = vs.getD t undef by
      simp only [Array.getD_eq_getD_getElem?]
      rw [Array.getElem?_append_left hlt]]
  · rintro e a' w' ⟨x, M', s', h1, h2, h3, h4⟩
    cases x <;> cases e <;> simp only [RExit, leaves] at h1 h4
    · obtain ⟨hdf, h4⟩ := h4
      obtain ⟨d, v, g1, g2, g3⟩ := results_ok h2 fn (fun d => K d s') h4
      exact ⟨df_nil h2 hdf, v, g1, M', s', d, v, h3, g2, ⟨a', h2⟩, .inl ⟨rfl, g3⟩⟩
    · obtain ⟨hdf, h4⟩ := h4
      obtain ⟨d, v, g1, g2, g3⟩ := results_ok h2 fn (fun d => K d s') h4
      exact ⟨df_nil h2 hdf, v, g1, M', s', d, v, h3, g2, ⟨a', h2⟩, .inl ⟨rfl, g3⟩⟩
    · obtain ⟨hdf, h4⟩ := h4
      obtain ⟨v, rfl, hv'⟩ := h1
      exact ⟨df_nil h2 hdf, M', s', _, v, h3, hv', ⟨a', h2⟩, .inr ⟨rfl, h4⟩⟩

/-! ### Freezing -/
mutual
/-- What a value is when all that the state owns is frozen. -/
def frz (h : Loc → Option Blk) : D → D
  | .i x => .i x
  | .agg ds => .agg (frzL h ds)
  | .os l => (match h l with
    | some (.arr _ sz rows) => .i (.sl false sz rows)
    | _ => .any)
  | .fn f a b => .fn f (frzL h a) (frzL h b)
  | .ifc t d => .ifc t (frz h d)
  | .tup ds => .tup (frzL h ds)
  | .el r o => .el r o
  | .un => .un
  | _ => .any
def frzL (h : Loc → Option Blk) : List D → List D
  | [] => []
  | d :: r => frz h d :: frzL h r
end

theorem frzL_get (h : Loc → Option Blk) : ∀ (ds : List D) (i : Nat), (frzL h ds)[i]? = (ds[i]?).map (frz h)
  | [], i => by simp [frzL]
  | d :: r, 0 => by simp [frzL]
  | d :: r, i + 1 => by simp [frzL, frzL_get h r i]

theorem frzL_length (h : Loc → Option Blk) : ∀ ds : List D, (frzL h ds).length = ds.length
  | [] => rfl
  | d :: r => by simp [frzL, frzL_length h r]

/-- A row that is owned, as a slice that does not change any more. -/
theorem RI_of_own {M : Mem} {w : World} {S' : Nat → Prop} (hS : ∀ b, M.S b → S' b) {ty : TypeId} {sz : Nat} {rows : List (List I)} {v : Value} (h : RB M w (.arr ty sz rows) (.own v)) (hb : ∀ b, v.ownBlock = some b → S' b) : RI w S' (.sl false sz rows) v := by
  obtain ⟨xs, ho, hz, hx⟩ := h
  rcases ho.2 with ⟨rfl, hn⟩ | ⟨g, cap, cur, rfl, _, hg, hnc, hcm, hcs, htk⟩
  · have : rows = [] := List.eq_nil_of_length_eq_zero hn
    subst this
    exact .nil _ _
  · refine .sl false sz rows g 0 cap (fun i j => xs.getD (i * sz + j) undef) (hb g rfl) hnc hcm (by simp) hz (fun i r j x hi hj => ?_) (fun i r j x hi hj => ?_)
    · obtain ⟨u, a1, a2, _⟩ := hx i r j x hi hj
      have hc := ho.cells (g := g) rfl _ _ a1
      rw [addr_add, Nat.zero_add] at hc
      rw [List.getD_eq_getElem?_getD, a1, Option.getD_some, Nat.zero_add]
      exact ⟨hc, a2⟩
    · obtain ⟨u, a1, _, a3⟩ := hx i r j x hi hj
      rw [List.getD_eq_getElem?_getD, a1, Option.getD_some]
      exact a3.mono (fun _ _ => rfl) hS

theorem R.frz {M M' : Mem} {w : World} {h : Loc → Option Blk} (hS : ∀ b, M.S b → M'.S b) (hh : ∀ l b, h l = some b → RB M w b (M.μ l) ∧ ∀ n, (M.μ l).has n → M'.S n) {d : D} {v : Value} (hd : R M w d v) : R M' w (frz h d) v := by
  induction hd with
  | i x v hx => exact .i x v (hx.mono (fun _ _ => rfl) hS)
  | agg l cs hs h1 h2 ih =>
    refine .agg _ cs (by rw [hs, frzL_length]) (fun i d hi => ?_) (fun i d hi => ?_)
    · rw [frzL_get, Option.map_eq_some_iff] at hi
      obtain ⟨d', hd', rfl⟩ := hi
      exact h1 i d' hd'
    · rw [frzL_get, Option.map_eq_some_iff] at hi
      obtain ⟨d', hd', rfl⟩ := hi
      exact ih i d' hd'
  | pt => exact .any _
  | el row o b off V hb h1 h2 => exact .el row o b off V (hS _ hb) h1 (fun j x hj => (h2 j x hj).mono (fun _ _ => rfl) hS)
  | ea => exact .any _
  | os l v hl hv =>
    simp only [Go.Aw.frz]
    split
    · rename_i ty sz rows hls
      obtain ⟨g1, g2⟩ := hh l _ hls
      rw [hl] at g1 g2
      exact .i _ _ (RI_of_own hS g1 (fun b hb => g2 b hb))
    · exact .any _
  | fn f first caps v1 v2 h1 h2 r1 r2 ih1 ih2 =>
    refine .fn f _ _ v1 v2 (by rw [h1, frzL_length]) (by rw [h2, frzL_length]) (fun i d hi => ?_) (fun i d hi => ?_)
    · rw [frzL_get, Option.map_eq_some_iff] at hi
      obtain ⟨d', hd', rfl⟩ := hi
      exact ih1 i d' hd'
    · rw [frzL_get, Option.map_eq_some_iff] at hi
      obtain ⟨d', hd', rfl⟩ := hi
      exact ih2 i d' hd'
  | yl => exact .any _
  | ifc t d v _ ih => exact .ifc t _ v ih
  | tup l vs hs h2 ih =>
    refine .tup _ vs (by rw [hs, frzL_length]) (fun i d hi => ?_)
    rw [frzL_get, Option.map_eq_some_iff] at hi
    obtain ⟨d', hd', rfl⟩ := hi
    exact ih i d' hd'
  | un => exact .un
  | any v => exact .any v

/-! ### Contracts -/
def onlyS (S : Nat → Prop) : Mem := { μ := fun _ => .dead, S := S }

/-- **A pure function: of arguments that do not change it tells a result that does not, and leaves memory as it is.** -/
def FnF (P : Program) (g : FuncId) (args : List D) (d : D) : Prop :=
  enters P g = true ∧ ∀ (S : Nat → Prop) (w : World) (vs : Array Value), (∀ b, S b → b < w.heap.size) → vs.size = args.length → (∀ i e, args[i]? = some e → R (onlyS S) w e (vs.getD i undef)) →
    Calls P g vs w fun e w' => ∃ v S', e = .returned v ∧ R (onlyS S') w' d v ∧ RowKit.Below w.heap.size w w' ∧ (∀ b, S b → S' b) ∧ (∀ b, S' b → (S b ∨ w.heap.size ≤ b) ∧ b < w'.heap.size)

theorem below_of_ext {S : Nat → Prop} {w w' : World} {M' : Mem} (h : Ext (onlyS S) w M' w') : RowKit.Below w.heap.size w w' :=
  ⟨h.os, h.tape, h.output, h.size, fun k hk => h.keep k hk (fun _ hx => hx)⟩

theorem fnF_of_awp {P : Program} {g : FuncId} {fn : Func} {c : Code} (hf : P.funcs[g]? = some fn) (hb : fn.body = some c) (he : enters P g = true) {args : List D} {d : D} (hn : args.length ≤ fn.ntmps)
    (h : AWP P none c (leaves P fn (fun d' s => frz (hlook s.hp) d' = d) (fun _ _ => False)) (start fn args [])) : FnF P g args d := by
  refine ⟨he, fun S w vs hS hs hv => (calls_of_awp hf hb h hn (M := onlyS S) ⟨fun l _ _ hx _ => hx.elim, fun l _ hx => hx.elim, fun _ _ l hx => hx, hS⟩ hs hv (fun l b hl => by simp [hlook] at hl) (fun _ => rfl)).mono ?_⟩
  rintro e w' ⟨M', s', d', v, h1, h2, ⟨a, h3⟩, (⟨rfl, h4⟩ | ⟨_, h4⟩)⟩
  · refine ⟨v, fun b => M'.S b ∨ ∃ l, (M'.μ l).has b, rfl, ?_, below_of_ext h1, fun b hb => .inl (h1.s b hb), fun b hb => ⟨?_, ?_⟩⟩
    · rw [← h4]
      exact h2.frz (M' := onlyS _) (fun b hb => .inl hb) (fun l b hl => ⟨h3.hp l b hl, fun n hn => .inr ⟨l, hn⟩⟩)
    · rcases hb with hb | ⟨l, hb⟩
      · rcases h1.snew b hb with h | ⟨l, h⟩ | h
        · exact .inl h
        · exact h.elim
        · exact .inr h
      · rcases h1.new l b hb with ⟨l', h⟩ | h
        · exact h.elim
        · exact .inr h
    · rcases hb with hb | ⟨l, hb⟩
      · exact h3.inv.slt b hb
      · exact h3.inv.lt l b hb
  · exact h4.elim

def D.isI : D → Bool
  | .i _ => true
  | _ => false

/-- Leads to nothing that may change. -/
def D.free : D → Bool
  | .i _ => true
  | .agg l => l.all D.isI
  | .fn _ a b => a.isEmpty && b.isEmpty
  | _ => false

theorem R.free {M : Mem} {w : World} {d : D} {v : Value} (h : R M w d v) (hd : d.free = true) : R (onlyS M.S) w d v := by
  cases h with
  | i x v h => exact .i x v h
  | agg l cs hs h1 h =>
    refine .agg l cs hs h1 (fun i e hi => ?_)
    have := List.all_eq_true.1 hd e (List.mem_of_getElem? hi)
    have hr := h i e hi
    cases e <;> simp [D.isI] at this
    generalize cs.getD i undef = u at hr
    cases hr with
    | i _ _ hx => exact .i _ _ hx
  | fn f first caps v1 v2 h1 h2 r1 r2 =>
    simp only [D.free, Bool.and_eq_true, List.isEmpty_iff] at hd
    obtain ⟨rfl, rfl⟩ := hd
    exact .fn f [] [] v1 v2 h1 h2 (by simp) (by simp)
  | _ => simp [D.free] at hd

/-- More that does not change is known; memory has grown. -/
theorem Rep.grow {M : Mem} {s : St} {w w' : World} {a : Act} (h : Rep M s w a) (S' : Nat → Prop) (hb : RowKit.Below w.heap.size w w') (hS : ∀ b, M.S b → S' b) (hn : ∀ b, S' b → (M.S b ∨ w.heap.size ≤ b) ∧ b < w'.heap.size) :
    Rep { M with S := S' } s w' a ∧ Ext M w { M with S := S' } w' := by
  have hw : ∀ b, M.S b → w'.heap[b]? = w.heap[b]? := fun b x => hb.block b (h.inv.slt b x)
  have hS2 : ∀ b, M.S b → ({ M with S := S' } : Mem).S b := hS
  refine ⟨⟨⟨h.inv.inj, fun l b x => Nat.lt_of_lt_of_le (h.inv.lt l b x) hb.size, fun b x l y => ?_, fun b x => (hn b x).2⟩, h.sz, fun t d hd => (h.tm t d hd).mono hw hS2 (fun _ _ => rfl), fun l c hl => ?_, h.nx, h.df⟩,
    ⟨hb.os, hb.tape, hb.output, hb.size, fun b x _ => hb.block b x, hS, fun l b x => .inl ⟨l, x⟩, fun b x => (hn b x).1.elim .inl (fun y => .inr (.inr y))⟩⟩
  · rcases (hn b x).1 with z | z
    · exact h.inv.sep b z l y
    · have := h.inv.lt l b y; omega
  · have := RB.mono (M' := { M with S := S' }) (w' := w') hw (fun b x => hb.block b (h.inv.lt _ _ x)) hS2 id (fun d v hd => hd.mono hw hS2 (fun _ _ => rfl)) (h.hp l c hl)
    cases c <;> simpa using this

/-- A pure function is called. -/
theorem callD_fnF {P : Program} {g : FuncId} {args : List D} {d : D} {s : St} {K Kp : D → St → Prop} (h : FnF P g args d) (hfree : ∀ e, e ∈ args → e.free = true) (hd : d.free = true) (hK : K d s) : CallD P g args s K Kp := by
  refine ⟨h.1, fun M w a hr vs hs hv => (h.2 M.S w vs hr.inv.slt hs (fun i e hi => (hv i e hi).free (hfree e (List.mem_of_getElem? hi)))).mono ?_⟩
  rintro e w' ⟨v, S', rfl, h1, h2, h3, h4⟩
  obtain ⟨g1, g2⟩ := hr.grow S' h2 h3 h4
  refine ⟨_, s, d, v, g1, g2, ?_, .inl ⟨rfl, hK⟩⟩
  -- what leads to nothing that changes is the same under any memory
  have : ∀ {d : D} {v : Value}, R (onlyS S') w' d v → d.free = true → R { M with S := S' } w' d v := by
    intro d v hR hd
    cases hR with
    | i x v h => exact .i x v h
    | agg l cs hs h1 h =>
      refine .agg l cs hs h1 (fun i e hi => ?_)
      have := List.all_eq_true.1 hd e (List.mem_of_getElem? hi)
      have hr := h i e hi
      cases e <;> simp [D.isI] at this
      generalize cs.getD i undef = u at hr
      cases hr with
      | i _ _ hx => exact .i _ _ hx
    | fn f first caps v1 v2 h1 h2 r1 r2 =>
      simp only [D.free, Bool.and_eq_true, List.isEmpty_iff] at hd
      obtain ⟨rfl, rfl⟩ := hd
      exact .fn f [] [] v1 v2 h1 h2 (by simp) (by simp)
    | _ => simp [D.free] at hd
  exact this h1 hd

end Go.Aw
