/-
  Calls, regions in the text's order; how a function is left.
-/
import Derived.Test.YtgpmcnakeeahbabGreatEvF
import Derived.RangeFuncLeaves
import Derived.RangeFuncRecord
import Derived.RangeFuncNested
namespace Go.Ev
open Go.Aw (litOk tiOf TIs tiOf_spec WF enters callFunc_run callsIn_WF)

abbrev CF := FuncId → List D → H → Option (D × H)
abbrev YE := Nat → List D → H → Option (D × H)

def argsOk (M : Mem) (args : List D) (vs : Array Value) : Prop := vs.size = args.length ∧ ∀ (i : Nat) d, args[i]? = some d → R M d (vs.getD i undef)

def Post (M : Mem) (w : World) (d : D) (h' : H) (e : Ending) (w' : World) : Prop := ∃ v M', e = .returned v ∧ RH M' h' w' ∧ R M' d v ∧ Ext M w M' w'

/-- What is told of calls is so: of those of a body, and of those of the model's own. -/
def SF (P : Program) (cf : CF) : Prop := ∀ g args h d h', cf g args h = some (d, h') → (enters P g = true ∧ ∀ M w vs, RH M h w → argsOk M args vs → Calls P g vs w (Post M w d h')) ∨
  (enters P g = false ∧ ∀ M w vs, RH M h w → argsOk M args vs → ∃ v w' M', (callFunc g vs).run P w = .ok (.value v) w' ∧ RH M' h' w' ∧ R M' d v ∧ Ext M w M' w')

/-- What is told of the model's own functions is so. -/
def SX0 (P : Program) (ex : CF) : Prop := ∀ g args h d h', ex g args h = some (d, h') → enters P g = false → ∀ M w vs, RH M h w → argsOk M args vs → ∃ v w' M', (callFunc g vs).run P w = .ok (.value v) w' ∧ RH M' h' w' ∧ R M' d v ∧ Ext M w M' w'

/-- A deferred call that does nothing where no panic is under way. -/
def Quiet (P : Program) (g : FuncId) (vs : Array Value) (w : World) : Prop := CallsDIn (WF none) 0 P g vs .returning w fun e u' w' => (∃ v, e = .returned v) ∧ u' = .returning ∧ w' = w

/-- What is told of deferred calls is so. -/
def SQ (P : Program) (ex : CF) : Prop := ∀ g args h d h', ex g args h = some (d, h') → enters P g = true → ∀ M w vs, RH M h w → argsOk M args vs → Quiet P g vs w

def SX (P : Program) (ex : CF) : Prop := SX0 P ex ∧ SQ P ex

/-- What is told of yields is so. -/
def SY (P : Program) (ye : YE) : Prop := ∀ l args h d h', ye l args h = some (d, h') → ∀ M w vs b, RH M h w → M.at l b → argsOk M args vs →
  ∃ f ts assign body, (Instr.yield b vs).run P w = .ok (.round b f ts assign body) w ∧ ∀ r, RoundIn (WF r) 0 P b f ts assign body w (Post M w d h')

/-! ### One operation -/
def evalOp (P : Program) (cf : CF) (ye : YE) (f : Operand → D) (h : H) (op : Op) : Option (D × H) :=
  match op with
  | .call c => (match c.callee with
    | .value g => (match f g with
      | .fn (.func g) first caps => cf g (first ++ (c.args.toList.map f ++ caps)) h
      | .yl l => ye l (c.args.toList.map f) h
      | _ => none)
    | _ => opE P h f op)
  | op => opE P h f op

theorem argsOk_append {M : Mem} {a b : List D} {v u : Array Value} (ha : argsOk M a v) (hb : argsOk M b u) : argsOk M (a ++ b) (v ++ u) := by
  refine ⟨by simp [ha.1, hb.1], fun i d hi => ?_⟩
  by_cases h : i < a.length
  · rw [List.getElem?_append_left h] at hi
    have := ha.2 i d hi
    rwa [show (v ++ u).getD i undef = v.getD i undef by
      simp only [Array.getD_eq_getD_getElem?]
      rw [Array.getElem?_append_left (by rw [ha.1]; exact h)]]
  · rw [List.getElem?_append_right (by omega)] at hi
    have := hb.2 _ d hi
    rwa [show (v ++ u).getD i undef = u.getD (i - a.length) undef by
      simp only [Array.getD_eq_getD_getElem?]
      rw [Array.getElem?_append_right (by rw [ha.1]; omega), ha.1]]

theorem semAt_exec {r : Option Nat} {o : Oper} (h : ∀ c, o.op ≠ .defer c) (ρ : Operand → Value) : o.semAt (WF r).round ρ = execOp ρ o := by
  unfold Oper.semAt
  split
  · rename_i c _ hc; exact absurd hc (h _)
  · rfl

theorem evalOp_ok {P : Program} {cf : CF} {ye : YE} (hcf : SF P cf) (hye : SY P ye) {r : Option Nat} {M : Mem} {w : World} {o : Oper} {a : Act} {f : Operand → D} {h : H} (hr : RH M h w) (hf0 : ∀ x, R M (f x) (a.eval x))
    {d : D} {h' : H} (he : evalOp P cf ye f h o.op = some (d, h')) (next : Act → World → Prop) (Q : Exit → Act → World → Prop)
    (hn : ∀ M' w' v, RH M' h' w' → R M' d v → Ext M w M' w' → next (a.put o.dst v) w') : o.wpIn (WF r) 0 P a w next Q := by
  have plain : opE P h f o.op = some (d, h') → o.wpIn (WF r) 0 P a w next Q := fun he => by
    obtain ⟨v, w', M', hrun, h1, h2, h3⟩ := opE_ok (o := o) hr hf0 rfl he
    refine ⟨fun _ _ => trivial, ?_⟩
    rw [semAt_exec (fun c hc => by rw [hc] at he; simp [opE] at he)]
    rcases hrun with hrun | ⟨hrun, rfl⟩
    · rw [hrun]; exact hn M' w' v h1 h2 h3
    · rw [hrun]; exact hn M' w' undef h1 h2 h3
  unfold evalOp at he
  split at he
  case h_2 => exact plain he
  rename_i c hop
  split at he
  case h_2 => exact plain he
  rename_i g hc
  have hargs : argsOk M (c.args.toList.map f) (c.args.map a.eval) := fns_R hf0 c.args
  have hg := hf0 g
  refine ⟨fun _ _ => trivial, ?_⟩
  rw [semAt_exec (fun c' hc' => by rw [hop] at hc'; cases hc')]
  split at he
  · rename_i g' first caps hfd
    rw [hfd] at hg
    have hcf := hcf _ _ _ _ _ he
    generalize hv : a.eval g = fv at hg
    cases hg with
    | fn _ _ _ v1 v2 h1 h2 r1 r2 =>
    have hao : argsOk M (first ++ (c.args.toList.map f ++ caps)) (v1 ++ c.args.map a.eval ++ v2) := by
      have := argsOk_append (M := M) ⟨h1, r1⟩ (argsOk_append hargs ⟨h2, r2⟩)
      rwa [← Array.append_assoc] at this
    have hex : (execOp a.eval o).run P w = (callFunc g' (v1 ++ c.args.map a.eval ++ v2)).run P w := by
      unfold execOp
      simp only [hop, resolve, hc, hv, Deferred.ofValue, Sem.run_bind, Sem.run_pure, Result.andThen_ok, invoke]
    rcases hcf with ⟨hen, hcall⟩ | ⟨_, hcall⟩
    · rw [hex, callFunc_run hen _ w]
      refine ⟨fun h => by simp [WF] at h, callsIn_WF ((hcall M w _ hr hao).mono ?_)⟩
      rintro e w' ⟨v, M', rfl, e1, e2, e3⟩
      exact hn M' w' v e1 e2 e3
    · obtain ⟨v, w', M', e0, e1, e2, e3⟩ := hcall M w _ hr hao
      rw [hex, e0]
      exact hn M' w' v e1 e2 e3
  · rename_i l hfd
    rw [hfd] at hg
    generalize hv : a.eval g = fv at hg
    cases hg with
    | yl _ b ha =>
    obtain ⟨fn, ts, assign, body, h1, h2⟩ := hye _ _ _ _ _ he M w (c.args.map a.eval) b hr ha hargs
    have hrun : (execOp a.eval o).run P w = .ok (.round b fn ts assign body) w := by
      unfold execOp
      simp only [hop, resolve, hc, hv, Deferred.ofValue, Sem.run_bind, Sem.run_pure, Result.andThen_ok, invoke, Array.empty_append]
      exact h1
    rw [hrun]
    refine ⟨fun h => by simp [WF] at h, (h2 r).mono ?_⟩
    rintro e w' ⟨v, M', rfl, e1, e2, e3⟩
    exact hn M' w' v e1 e2 e3
  · cases he

theorem evalOp_congr {P : Program} {cf : CF} {ye : YE} {h : H} {f g : Operand → D} {op : Op} (he : ∀ x ∈ op.operands, f x = g x) : evalOp P cf ye f h op = evalOp P cf ye g h op := by
  unfold evalOp
  split
  · rename_i c
    split
    · rename_i x hc
      have hx : f x = g x := he x (by simp [Op.operands, Call.operands, hc])
      have ha : c.args.toList.map f = c.args.toList.map g := mapL_congr _ fun y hy => he y (by simp only [Op.operands, Call.operands, Array.mem_append]; exact .inr (Array.mem_toList_iff.1 hy))
      rw [hx, ha]
    · exact opE_congr he
  · exact opE_congr he

/-! ### Regions in the text's order -/
def guardE (gd : Nat → Option Tmp) (tm : T D) : Option (Nat × Bool) → Option Bool
  | none => some true
  | some (j, want) => match gd j with
    | some t => (match tm.get t with
      | some (.lit (.bool b)) => some (b == want)
      | some .un => some false
      | _ => none)
    | none => none

theorem guard_ok' {M : Mem} {ops : Array Oper} {tm : T D} {a : Act} {o : Oper} {b : Bool} (ht : ∀ j w t, o.guard = some (j, w) → (ops[j]?).bind (·.dst) = some t → ∀ d, tm.get t = some d → R M d (a.tmps.getD t undef)) (h : guardE (fun j => (ops[j]?).bind (·.dst)) tm o.guard = some b) : Region.wanted o (yielded ops a.tmps) = b := by
  unfold guardE at h
  split at h
  · rename_i hg
    cases h
    simp [Region.wanted, hg]
  · rename_i j want hg
    split at h
    case h_2 => cases h
    rename_i t hgd
    have hgd : (ops[j]?).bind (·.dst) = some t := hgd
    split at h
    · rename_i c hl
      cases h
      have hv := (ht _ _ _ hg hgd _ hl).litE
      have hts : t < a.tmps.size := by
        by_cases hlt : t < a.tmps.size
        · exact hlt
        · rw [Array.getD_eq_getD_getElem?, Array.getElem?_eq_none (Nat.le_of_not_lt hlt)] at hv
          simp [undef] at hv
      have hy : yielded ops a.tmps j = some c := by
        unfold yielded
        rw [hgd]
        rw [Array.getD_eq_getD_getElem?] at hv
        cases hq : a.tmps[t]? with
        | none => rw [Array.getElem?_eq_getElem hts] at hq; cases hq
        | some q =>
          rw [hq] at hv
          simp only [Option.getD_some] at hv
          subst hv
          simp [hq]
      simp only [Region.wanted, hg, hy]
      cases c <;> cases want <;> rfl
    · rename_i hl
      cases h
      have hv := ht _ _ _ hg hgd _ hl
      have hy : yielded ops a.tmps j = none := by
        unfold yielded
        rw [hgd]
        simp only [Option.bind_some]
        rw [Array.getD_eq_getD_getElem?] at hv
        cases hq : a.tmps[t]? with
        | none => rfl
        | some q =>
          rw [hq] at hv
          simp only [Option.getD_some] at hv
          cases hv
          rfl
      simp [Region.wanted, hg, hy]
    · cases h

theorem guard_ok {M : Mem} {ops : Array Oper} {tm : T D} {n : Nat} {a : Act} (ht : RT M n tm a.tmps) {o : Oper} {b : Bool} (h : guardE (fun j => (ops[j]?).bind (·.dst)) tm o.guard = some b) : Region.wanted o (yielded ops a.tmps) = b :=
  guard_ok' (fun _ _ t _ _ d hd => ht.2 t d hd) h

def deferE (tm : T D) : Op → Option (Option DF)
  | .defer c => some (match c.callee with
    | .value g => (match valT tm g with
      | .fn (.func g') first caps => some (.fn g' caps (first ++ c.args.toList.map (valT tm)))
      | _ => none)
    | _ => none)
  | _ => none

def evalR (P : Program) (cf : CF) (ye : YE) (top : Bool) (gd : Nat → Option Tmp) : List Oper → St → Option St
  | [], s => some s
  | o :: rest, s => bif s.room o.dst then (match guardE gd s.tm o.guard with
      | some true => (match deferE s.tm o.op with
        | some (some x) => bif top then evalR P cf ye top gd rest ({ s with df := x :: s.df }.put o.dst .un) else none
        | some none => none
        | none => (match evalOp P cf ye (valT s.tm) s.h o.op with
          | some (d, h') => evalR P cf ye top gd rest ({ s with h := h' }.put o.dst d)
          | none => none))
      | some false => evalR P cf ye top gd rest (s.put o.dst .un)
      | none => none) else none

theorem Rep.defer {M : Mem} {s : St} {w : World} {a : Act} (hr : Rep M s w a) {x : DF} {d : Deferred} (hx : DfOk M x d) : Rep M { s with df := x :: s.df } w { a with defers := d :: a.defers } :=
  ⟨hr.h, hr.t, hr.df.cons hx⟩

theorem defer_run {P : Program} {M : Mem} {s : St} {w : World} {a : Act} (hr : Rep M s w a) {o : Oper} {x : DF} (h : deferE s.tm o.op = some (some x)) : ∃ d, (execOp a.eval o).run P w = .ok (.defer d) w ∧ DfOk M x d := by
  unfold deferE at h
  split at h
  case h_2 => cases h
  rename_i c hop
  simp only [Option.some.injEq] at h
  split at h
  case h_2 => cases h
  rename_i g hc
  split at h
  case h_2 => cases h
  rename_i g' first caps hd
  cases h
  have hg := hr.val g
  rw [hd] at hg
  generalize hv : a.eval g = fv at hg
  cases hg with
  | fn _ _ _ v1 v2 h1 h2 r1 r2 =>
  refine ⟨{ target := .fn (.func g') v2, args := v1 ++ c.args.map a.eval }, ?_, v1 ++ c.args.map a.eval, v2, ?_⟩
  · simp only [execOp, hop, resolve, hc, hv, Deferred.ofValue, Sem.run_bind, Sem.run_pure, Result.andThen_ok]
  · exact ⟨rfl, argsOk_append ⟨h1, r1⟩ (fns_R hr.val c.args), h2, r2⟩

theorem evalR_ok {P : Program} {cf : CF} {ye : YE} (hcf : SF P cf) (hye : SY P ye) {r : Option Nat} {top : Bool} (htop : top = true → r = none) {ops : Array Oper} {M0 : Mem} {w0 : World} {s' : St} {Q : Exit → Act → World → Prop}
    (hK : ∀ M w a, Rep M s' w a → Ext M0 w0 M w → Q .normal a w) :
    ∀ (l : List Oper) (i : Nat), (∀ j o, l[j]? = some o → ops[i + j]? = some o) → i + l.length = ops.size → ∀ s, evalR P cf ye top (fun j => (ops[j]?).bind (·.dst)) l s = some s' → ∀ M w a, Rep M s w a → Ext M0 w0 M w →
      wpOpsIn (WF r) 0 P ops Q (List.range' i l.length) a w
  | [], i, _, _, s, h, M, w, a, hr, he => by
    simp only [evalR, Option.some.injEq] at h
    subst h
    exact hK M w a hr he
  | o :: rest, i, hl, hn, s, h, M, w, a, hr, he => by
    have ho : ops[i]? = some o := by simpa using hl 0 o rfl
    simp only [List.length_cons, List.range'_succ, wpOpsIn, ho]
    have ih := evalR_ok hcf hye (r := r) htop hK rest (i + 1) (fun j o' hj => by have := hl (j + 1) o' (by simpa using hj); rwa [show i + (j + 1) = i + 1 + j by omega] at this) (by simp at hn; omega)
    simp only [evalR] at h
    obtain ⟨hroom, h⟩ := bif_some h
    split at h
    · rename_i hg
      rw [if_pos (guard_ok hr.t hg)]
      split at h
      · rename_i x hx
        obtain ⟨ht, h⟩ := bif_some h
        have := htop ht
        subst this
        obtain ⟨d, e1, e2⟩ := defer_run (P := P) hr hx
        refine ⟨fun _ _ => trivial, ?_⟩
        rw [show o.semAt (WF none).round a.eval = execOp a.eval o from rfl, e1, Oper.uponIn_defer]
        exact ih _ h M w _ ((hr.defer e2).put .un hroom) he
      · cases h
      split at h
      case h_2 => cases h
      rename_i d h' hop
      exact evalOp_ok hcf hye hr.h (fun x => hr.val x) hop _ _ fun M' w' v e1 e2 e3 => ih _ h M' w' _ ((hr.mono e3.le e1).put e2 hroom) (he.trans e3)
    · rename_i hg
      rw [if_neg (by rw [guard_ok hr.t hg]; simp)]
      exact ⟨fun _ _ => trivial, ih _ h M w _ (hr.put .un hroom) he⟩
    · cases h

theorem region_ok {P : Program} {cf : CF} {ye : YE} (hcf : SF P cf) (hye : SY P ye) {r : Option Nat} {top : Bool} (htop : top = true → r = none) {id : Nat} {ops : Array Oper} {M : Mem} {w : World} {a : Act} {s s' : St} {Q : Exit → Act → World → Prop} (hr : Rep M s w a)
    (he : evalR P cf ye top (fun j => (ops[j]?).bind (·.dst)) ops.toList s = some s') (hK : ∀ M' w' a', Rep M' s' w' a' → Ext M w M' w' → Q .normal a' w') : (Code.region id ops false).wpIn (WF r) 0 P Q a w := by
  refine wpIn_region ?_
  rw [List.range_eq_range']
  have := evalR_ok hcf hye (r := r) htop (ops := ops) hK ops.toList 0 (fun j o hj => by simpa using hj) (by simp) s he M w a hr (Ext.refl M w)
  simpa using this

/-! ### Results -/
def resE (P : Program) (s : St) : List ResultVar → Option (List D)
  | [] => some []
  | .tmp t :: r => (resE P s r).map (valT s.tm (.tmp t) :: ·)
  | .cell t ty :: r => match tiOf P ty with
    | some ti => (match loadE s.h ti (valT s.tm (.tmp t)) with
      | some d => (resE P s r).map (d :: ·)
      | none => none)
    | none => none

def packD : List D → D
  | [d] => d
  | l => .tup l

theorem resE_ok {P : Program} {M : Mem} {s : St} {w : World} {ts : Array Value} (hr : RH M s.h w) (hv : ∀ t, R M (valT s.tm (.tmp t)) (ts.getD t undef)) : ∀ (l : List ResultVar) (ds : List D), resE P s l = some ds →
    ∃ vs, (l.mapM fun (x : ResultVar) => match x with | .tmp t => pure (ts.getD t undef) | .cell p t => (do loadVar t (← asAddr (ts.getD p undef)) : Sem Value)).run P w = .ok vs w ∧
      vs.length = ds.length ∧ (∀ (i : Nat) d, ds[i]? = some d → R M d (vs.getD i undef))
  | [], ds, h => by
    simp only [resE, Option.some.injEq] at h
    subst h
    exact ⟨[], by simp, rfl, by simp⟩
  | .tmp t :: r, ds, h => by
    simp only [resE, Option.map_eq_some_iff] at h
    obtain ⟨ds', h, rfl⟩ := h
    obtain ⟨vs, h1, h2, h3⟩ := resE_ok hr hv r _ h
    refine ⟨ts.getD t undef :: vs, ?_, by simp [h2], fun i d hi => ?_⟩
    · simp only [List.mapM_cons, Sem.run_bind, Sem.run_pure, Result.andThen_ok, h1]
    · cases i with
      | zero => simp at hi; subst hi; exact hv t
      | succ i => exact h3 i d (by simpa using hi)
  | .cell p ty :: r, ds, h => by
    simp only [resE] at h
    split at h
    case h_2 => cases h
    rename_i ti hti
    obtain ⟨it, dt, zt, ht⟩ := tiOf_spec hti
    split at h
    case h_2 => cases h
    rename_i y hy
    simp only [Option.map_eq_some_iff] at h
    obtain ⟨ds', h, rfl⟩ := h
    obtain ⟨u, e1, e2⟩ := load_ok ht hr hy (hv p)
    obtain ⟨vs, h1, h2, h3⟩ := resE_ok hr hv r _ h
    have e1' := Aw.loadAt_asAddr e1
    refine ⟨u :: vs, ?_, by simp [h2], fun i d hi => ?_⟩
    · simp only [List.mapM_cons]
      rw [Sem.run_bind]
      have : (do loadVar ty (← asAddr (ts.getD p undef)) : Sem Value).run P w = .ok u w := e1'
      rw [this]
      simp only [Result.andThen_ok, Sem.run_bind, h1, Sem.run_pure]
    · cases i with
      | zero => simp at hi; subst hi; exact e2
      | succ i => exact h3 i d (by simpa using hi)

theorem results_ok {P : Program} {M : Mem} {s : St} {w : World} {ts : Array Value} (hr : RH M s.h w) (hv : ∀ t, R M (valT s.tm (.tmp t)) (ts.getD t undef)) (fn : Func) {ds : List D} (h : resE P s fn.results.toList = some ds) :
    ∃ v, (results fn ts).run P w = .ok v w ∧ R M (packD ds) v := by
  obtain ⟨vs, h1, h2, h3⟩ := resE_ok hr hv _ _ h
  have hm : (fn.results.mapM fun (x : ResultVar) => match x with | .tmp t => pure (ts.getD t undef) | .cell p t => (do loadVar t (← asAddr (ts.getD p undef)) : Sem Value)).run P w = .ok vs.toArray w := by
    rw [Array.mapM_eq_mapM_toList, Sem.run_map, h1]
    rfl
  refine ⟨if h : vs.toArray.size = 1 then vs.toArray[0] else .tuple vs.toArray, ?_, ?_⟩
  · unfold results
    rw [Sem.run_bind]
    exact congrArg (fun r => Result.andThen r fun (a : Array Value) w' => Sem.run P (pure (if h : a.size = 1 then a[0] else Value.tuple a)) w') hm
  · match ds, vs, h2, h3 with
    | [d], [v], _, h3 => simpa [packD] using h3 0 d rfl
    | [], [], _, _ => exact .tup _ _ rfl (by simp)
    | d :: e :: r, v :: u :: q, h2, h3 =>
      simp only [packD]
      rw [dif_neg (by simp)]
      exact .tup _ _ (by simpa using h2) (fun i x hi => by
        have := h3 i x hi
        rwa [show (v :: u :: q).toArray.getD i undef = (v :: u :: q).getD i undef by simp [Array.getD_eq_getD_getElem?, List.getD_eq_getElem?_getD]])

/-! ### The marks, and what is deferred -/
def takeE (P : Program) (ex : CF) : List DF → H → Option H
  | [], h => some h
  | .mark l :: r, h => (match h.hp.get l with
    | some .dfr => takeE P ex r { h with hp := h.hp.del l }
    | _ => none)
  | .fn g caps args :: r, h => bif enters P g then (match ex g (args ++ caps) h with
    | some _ => takeE P ex r h
    | none => none) else none

theorem leaves_ok {P : Program} {ex : CF} (hq : SQ P ex) {fn : Func} {ts : Array Value} {M0 : Mem} {w0 : World} {M : Mem} {R' : Ending → World → Prop} {tm : T D} {n : Nat} (hv : RT M n tm ts) {dd : D} {hend : H} :
    ∀ (ls : List DF) (ds : List Deferred) (h : H) (w : World), RH M h w → Ext M0 w0 M w → DfsOk M ls ds → takeE P ex ls h = some hend →
      (resE P { n := n, tm := tm, h := hend, df := [] } fn.results.toList).map packD = some dd → (∀ v w', RH M hend w' → R M dd v → Ext M0 w0 M w' → R' (.returned v) w') →
      LeavesInM (WF none) 0 P fn ts R' ds .returning w
  | [], [], h, w, hr, he, _, ht, hres, hK => by
    simp only [takeE, Option.some.injEq] at ht
    subst ht
    simp only [Option.map_eq_some_iff] at hres
    obtain ⟨ds, hds, rfl⟩ := hres
    have hval : ∀ t, R M (valT tm (.tmp t)) (ts.getD t undef) := fun t => by
      simp only [valT]
      cases hl : tm.get t with
      | none => exact .any _
      | some d => exact hv.2 t d hl
    obtain ⟨v, h1, h2⟩ := results_ok (s := { n := n, tm := tm, h := h, df := [] }) hr hval fn hds
    exact ⟨v, h1, hK v w hr h2 he⟩
  | x :: ls, d :: ds, h, w, hr, he, hdf, ht, hres, hK => by
    obtain ⟨d', hd', hx⟩ := hdf.2 0 x rfl
    simp only [List.getElem?_cons_zero, Option.some.injEq] at hd'
    subst hd'
    have hdf' : DfsOk M ls ds := ⟨by simpa using hdf.1, fun i k hk => by have := hdf.2 (i + 1) k (by simpa using hk); simpa using this⟩
    cases x with
    | mark l =>
      simp only [takeE] at ht
      split at ht
      case h_2 => cases ht
      rename_i hg
      obtain ⟨b, rfl, ha⟩ := hx
      obtain ⟨c, hl, hbk⟩ := hr.look hg ha
      have hbk : w.heap[b]? = some (.deferred (some [])) := hbk
      have hlt : b < w.heap.size := (Array.getElem?_eq_some_iff.1 hbk).1
      refine ⟨by simp, .inl ⟨b, w.putObj b (.deferred none), rfl, run_takeDeferred hbk, ?_⟩⟩
      obtain ⟨g1, g2⟩ := hr.drop (w' := w.putObj b (.deferred none)) hl rfl rfl rfl (by simp [World.putObj]) (fun m hm => by simp only [World.putObj]; rw [Array.getElem?_setIfInBounds_ne (fun q => hm q.symm)])
      exact leaves_ok hq hv ls ds _ _ g1 (he.trans g2) hdf' ht hres hK
    | fn g caps args =>
      simp only [takeE] at ht
      obtain ⟨hen, ht⟩ := bif_some ht
      split at ht
      case h_2 => cases ht
      rename_i p hp
      obtain ⟨dx, hx'⟩ := p
      obtain ⟨v1, v2, rfl, a1, a2⟩ := hx
      have hcall := hq _ _ _ _ _ hp hen M w (v1 ++ v2) hr (argsOk_append a1 a2)
      refine ⟨by simp, .inr ⟨fun h => by simp [WF] at h, .func g, v2, g, v1 ++ v2, rfl, ?_, fun _ _ => trivial, ?_⟩⟩
      · show (callFunc g (v1 ++ v2)).run P w = _
        exact callFunc_run hen _ w
      · refine hcall.mono ?_
        rintro e u' w' ⟨⟨v, rfl⟩, rfl, rfl⟩
        exact leaves_ok hq hv ls ds h w' hr he hdf' ht hres hK
  | [], _ :: _, _, _, _, _, h, _, _, _ => by simp [DfsOk] at h
  | _ :: _, [], _, _, _, _, h, _, _, _ => by simp [DfsOk] at h

end Go.Ev
