/-
  Calls, regions in the text's order; how a function is left.
-/
import Derived.Test.YthlebppdhipanaaEvb
import Derived.RangeFuncLeaves
import Derived.RangeFuncRecord
import Derived.RangeFuncNested
import Derived.Lib.Bytealg
import Derived.OrdersIn
import Derived.ChangeSame
import Derived.RowKit
set_option linter.all false
namespace Go.Ev
open Go.Aw (litOk tiOf TIs tiOf_spec WF enters callFunc_run callsIn_WF)

abbrev CF := FuncId → List D → H → Option (D × H)
abbrev YE := Nat → List D → H → Option (D × H)

def argsOk (M : Mem) (args : List D) (vs : Array Value) : Prop := vs.size = args.length ∧ ∀ (i : Nat) d, args[i]? = some d → R M d (vs.getD i undef)

def Post (M : Mem) (w : World) (d : D) (h' : H) (e : Ending) (w' : World) : Prop := ∃ v M', e = .returned v ∧ RH M' h' w' ∧ R M' d v ∧ Ext M w M' w'

/-- What is told of calls is so: of those of a body, and of those of the model's own. -/
def SF (P : Program) (cf : CF) : Prop := ∀ g args h d h', cf g args h = some (d, h') → (enters P g = true ∧ ∀ M w vs, RH M h w → argsOk M args vs → Calls P g vs w (Post M w d h')) ∨
  (enters P g = false ∧ ∀ M w vs, RH M h w → argsOk M args vs → ∃ v w' M', (callFunc g vs).run P w = .ok (.value v) w' ∧ RH M' h' w' ∧ R M' d v ∧ Ext M w M' w')

/-- What is told of the model's own functions is so. -/
def SX0 (P : Program) (ex : CF) : Prop := ∀ g args h d h', ex g args h = some (d, h') → enters P g = false → ∀ M w vs, RH M h w → argsOk M args vs → ∃ v w' M', (callFunc g vs).run P w = .ok (.value v) w' ∧ RH M' h' w' ∧ R M' d v ∧ Ext M w M' w'

/-- A deferred call that does nothing where no panic is under way. -/
def Quiet (P : Program) (g : FuncId) (vs : Array Value) (w : World) : Prop := CallsDIn (WF none) 0 P g vs .returning w fun e u' w' => (∃ v, e = .returned v) ∧ u' = .returning ∧ w' = w

/-- What is told of deferred calls is so. -/
def SQ (P : Program) (ex : CF) : Prop := ∀ g args h d h', ex g args h = some (d, h') → enters P g = true → ∀ M w vs, RH M h w → argsOk M args vs → Quiet P g vs w

def SX (P : Program) (ex : CF) : Prop := SX0 P ex ∧ SQ P ex

/-- What is told of yields is so. -/
def SY (P : Program) (ye : YE) : Prop := ∀ l args h d h', ye l args h = some (d, h') → ∀ M w vs b, RH M h w → M.at l b → argsOk M args vs →
  ∃ f ts assign body, (Instr.yield b vs).run P w = .ok (.round b f ts assign body) w ∧ ∀ r, RoundIn (WF r) 0 P b f ts assign body w (Post M w d h')

/-! ### One operation -/
def evalOp (P : Program) (cf : CF) (ye : YE) (f : Operand → D) (h : H) (op : Op) : Option (D × H) :=
  match op with
  | .call c => (match c.callee with
    | .value g => (match f g with
      | .fn (.func g) first caps => cf g (first ++ (c.args.toList.map f ++ caps)) h
      | .yl l => ye l (c.args.toList.map f) h
      | _ => none)
    | _ => opE P h f op)
  | op => opE P h f op

theorem argsOk_append {M : Mem} {a b : List D} {v u : Array Value} (ha : argsOk M a v) (hb : argsOk M b u) : argsOk M (a ++ b) (v ++ u) := by
  refine ⟨by simp [ha.1, hb.1], fun i d hi => ?_⟩
  by_cases h : i < a.length
  · rw [List.getElem?_append_left h] at hi
    have := ha.2 i d hi
    rwa [show (v ++ u).getD i undef = v.getD i undef by
      simp only [Array.getD_eq_getD_getElem?]
      rw [Array.getElem?_append_left (by rw [ha.1]; exact h)]]
  · rw [List.getElem?_append_right (by omega)] at hi
    have := hb.2 _ d hi
    rwa [show (v ++ u).getD i undef = u.getD (i - a.length) undef by
      simp only [Array.getD_eq_getD_getElem?]
      rw [Array.getElem?_append_right (by rw [ha.1]; omega), ha.1]]

theorem semAt_exec {r : Option Nat} {o : Oper} (h : ∀ c, o.op ≠ .defer c) (ρ : Operand → Value) : o.semAt (WF r).round ρ = execOp ρ o := by
  unfold Oper.semAt
  split
  · rename_i c _ hc; exact absurd hc (h _)
  · rfl

theorem evalOp_ok {P : Program} {cf : CF} {ye : YE} (hcf : SF P cf) (hye : SY P ye) {r : Option Nat} {M : Mem} {w : World} {o : Oper} {a : Act} {f : Operand → D} {h : H} (hr : RH M h w) (hf0 : ∀ x, R M (f x) (a.eval x))
    {d : D} {h' : H} (he : evalOp P cf ye f h o.op = some (d, h')) (next : Act → World → Prop) (Q : Exit → Act → World → Prop)
    (hn : ∀ M' w' v, RH M' h' w' → R M' d v → Ext M w M' w' → next (a.put o.dst v) w') : o.wpIn (WF r) 0 P a w next Q := by
  have plain : opE P h f o.op = some (d, h') → o.wpIn (WF r) 0 P a w next Q := fun he => by
    obtain ⟨v, w', M', hrun, h1, h2, h3⟩ := opE_ok (o := o) hr hf0 rfl he
    refine ⟨fun _ _ => trivial, ?_⟩
    rw [semAt_exec (fun c hc => by rw [hc] at he; simp [opE] at he)]
    rcases hrun with hrun | ⟨hrun, rfl⟩
    · rw [hrun]; exact hn M' w' v h1 h2 h3
    · rw [hrun]; exact hn M' w' undef h1 h2 h3
  unfold evalOp at he
  split at he
  case h_2 => exact plain he
  rename_i c hop
  split at he
  case h_2 => exact plain he
  rename_i g hc
  have hargs : argsOk M (c.args.toList.map f) (c.args.map a.eval) := fns_R hf0 c.args
  have hg := hf0 g
  refine ⟨fun _ _ => trivial, ?_⟩
  rw [semAt_exec (fun c' hc' => by rw [hop] at hc'; cases hc')]
  split at he
  · rename_i g' first caps hfd
    rw [hfd] at hg
    have hcf := hcf _ _ _ _ _ he
    generalize hv : a.eval g = fv at hg
    cases hg with
    | fn _ _ _ v1 v2 h1 h2 r1 r2 =>
    have hao : argsOk M (first ++ (c.args.toList.map f ++ caps)) (v1 ++ c.args.map a.eval ++ v2) := by
      have := argsOk_append (M := M) ⟨h1, r1⟩ (argsOk_append hargs ⟨h2, r2⟩)
      rwa [← Array.append_assoc] at this
    have hex : (execOp a.eval o).run P w = (callFunc g' (v1 ++ c.args.map a.eval ++ v2)).run P w := by
      unfold execOp
      simp only [hop, resolve, hc, hv, Deferred.ofValue, Sem.run_bind, Sem.run_pure, Result.andThen_ok, invoke]
    rcases hcf with ⟨hen, hcall⟩ | ⟨_, hcall⟩
    · rw [hex, callFunc_run hen _ w]
      refine ⟨fun h => by simp [WF] at h, callsIn_WF ((hcall M w _ hr hao).mono ?_)⟩
      rintro e w' ⟨v, M', rfl, e1, e2, e3⟩
      exact hn M' w' v e1 e2 e3
    · obtain ⟨v, w', M', e0, e1, e2, e3⟩ := hcall M w _ hr hao
      rw [hex, e0]
      exact hn M' w' v e1 e2 e3
  · rename_i l hfd
    rw [hfd] at hg
    generalize hv : a.eval g = fv at hg
    cases hg with
    | yl _ b ha =>
    obtain ⟨fn, ts, assign, body, h1, h2⟩ := hye _ _ _ _ _ he M w (c.args.map a.eval) b hr ha hargs
    have hrun : (execOp a.eval o).run P w = .ok (.round b fn ts assign body) w := by
      unfold execOp
      simp only [hop, resolve, hc, hv, Deferred.ofValue, Sem.run_bind, Sem.run_pure, Result.andThen_ok, invoke, Array.empty_append]
      exact h1
    rw [hrun]
    refine ⟨fun h => by simp [WF] at h, (h2 r).mono ?_⟩
    rintro e w' ⟨v, M', rfl, e1, e2, e3⟩
    exact hn M' w' v e1 e2 e3
  · cases he

theorem evalOp_congr {P : Program} {cf : CF} {ye : YE} {h : H} {f g : Operand → D} {op : Op} (he : ∀ x ∈ op.operands, f x = g x) : evalOp P cf ye f h op = evalOp P cf ye g h op := by
  unfold evalOp
  split
  · rename_i c
    split
    · rename_i x hc
      have hx : f x = g x := he x (by simp [Op.operands, Call.operands, hc])
      have ha : c.args.toList.map f = c.args.toList.map g := mapL_congr _ fun y hy => he y (by simp only [Op.operands, Call.operands, Array.mem_append]; exact .inr (Array.mem_toList_iff.1 hy))
      rw [hx, ha]
    · exact opE_congr he
  · exact opE_congr he

/-! ### Regions in the text's order -/
def guardE (gd : Nat → Option Tmp) (tm : T D) : Option (Nat × Bool) → Option Bool
  | none => some true
  | some (j, want) => match gd j with
    | some t => (match tm.get t with
      | some (.lit (.bool b)) => some (b == want)
      | some .un => some false
      | _ => none)
    | none => none

theorem guard_ok' {M : Mem} {ops : Array Oper} {tm : T D} {a : Act} {o : Oper} {b : Bool} (ht : ∀ j w t, o.guard = some (j, w) → (ops[j]?).bind (·.dst) = some t → ∀ d, tm.get t = some d → R M d (a.tmps.getD t undef)) (h : guardE (fun j => (ops[j]?).bind (·.dst)) tm o.guard = some b) : Region.wanted o (yielded ops a.tmps) = b := by
  unfold guardE at h
  split at h
  · rename_i hg
    cases h
    simp [Region.wanted, hg]
  · rename_i j want hg
    split at h
    case h_2 => cases h
    rename_i t hgd
    have hgd : (ops[j]?).bind (·.dst) = some t := hgd
    split at h
    · rename_i c hl
      cases h
      have hv := (ht _ _ _ hg hgd _ hl).litE
      have hts : t < a.tmps.size := by
        by_cases hlt : t < a.tmps.size
        · exact hlt
        · rw [Array.getD_eq_getD_getElem?, Array.getElem?_eq_none (Nat.le_of_not_lt hlt)] at hv
          simp [undef] at hv
      have hy : yielded ops a.tmps j = some c := by
        unfold yielded
        rw [hgd]
        rw [Array.getD_eq_getD_getElem?] at hv
        cases hq : a.tmps[t]? with
        | none => rw [Array.getElem?_eq_getElem hts] at hq; cases hq
        | some q =>
          rw [hq] at hv
          simp only [Option.getD_some] at hv
          subst hv
          simp [hq]
      simp only [Region.wanted, hg, hy]
      cases c <;> cases want <;> rfl
    · rename_i hl
      cases h
      have hv := ht _ _ _ hg hgd _ hl
      have hy : yielded ops a.tmps j = none := by
        unfold yielded
        rw [hgd]
        simp only [Option.bind_some]
        rw [Array.getD_eq_getD_getElem?] at hv
        cases hq : a.tmps[t]? with
        | none => rfl
        | some q =>
          rw [hq] at hv
          simp only [Option.getD_some] at hv
          cases hv
          rfl
      simp [Region.wanted, hg, hy]
    · cases h

theorem guard_ok {M : Mem} {ops : Array Oper} {tm : T D} {n : Nat} {a : Act} (ht : RT M n tm a.tmps) {o : Oper} {b : Bool} (h : guardE (fun j => (ops[j]?).bind (·.dst)) tm o.guard = some b) : Region.wanted o (yielded ops a.tmps) = b :=
  guard_ok' (fun _ _ t _ _ d hd => ht.2 t d hd) h

def deferE (tm : T D) : Op → Option (Option DF)
  | .defer c => some (match c.callee with
    | .value g => (match valT tm g with
      | .fn (.func g') first caps => some (.fn g' caps (first ++ c.args.toList.map (valT tm)))
      | _ => none)
    | _ => none)
  | _ => none

def evalR (P : Program) (cf : CF) (ye : YE) (top : Bool) (gd : Nat → Option Tmp) : List Oper → St → Option St
  | [], s => some s
  | o :: rest, s => bif s.room o.dst then (match guardE gd s.tm o.guard with
      | some true => (match deferE s.tm o.op with
        | some (some x) => bif top then evalR P cf ye top gd rest ({ s with df := x :: s.df }.put o.dst .un) else none
        | some none => none
        | none => (match evalOp P cf ye (valT s.tm) s.h o.op with
          | some (d, h') => evalR P cf ye top gd rest ({ s with h := h' }.put o.dst d)
          | none => none))
      | some false => evalR P cf ye top gd rest (s.put o.dst .un)
      | none => none) else none

theorem Rep.defer {M : Mem} {s : St} {w : World} {a : Act} (hr : Rep M s w a) {x : DF} {d : Deferred} (hx : DfOk M x d) : Rep M { s with df := x :: s.df } w { a with defers := d :: a.defers } :=
  ⟨hr.h, hr.t, hr.df.cons hx⟩

theorem defer_run {P : Program} {M : Mem} {s : St} {w : World} {a : Act} (hr : Rep M s w a) {o : Oper} {x : DF} (h : deferE s.tm o.op = some (some x)) : ∃ d, (execOp a.eval o).run P w = .ok (.defer d) w ∧ DfOk M x d := by
  unfold deferE at h
  split at h
  case h_2 => cases h
  rename_i c hop
  simp only [Option.some.injEq] at h
  split at h
  case h_2 => cases h
  rename_i g hc
  split at h
  case h_2 => cases h
  rename_i g' first caps hd
  cases h
  have hg := hr.val g
  rw [hd] at hg
  generalize hv : a.eval g = fv at hg
  cases hg with
  | fn _ _ _ v1 v2 h1 h2 r1 r2 =>
  refine ⟨{ target := .fn (.func g') v2, args := v1 ++ c.args.map a.eval }, ?_, v1 ++ c.args.map a.eval, v2, ?_⟩
  · simp only [execOp, hop, resolve, hc, hv, Deferred.ofValue, Sem.run_bind, Sem.run_pure, Result.andThen_ok]
  · exact ⟨rfl, argsOk_append ⟨h1, r1⟩ (fns_R hr.val c.args), h2, r2⟩

theorem evalR_ok {P : Program} {cf : CF} {ye : YE} (hcf : SF P cf) (hye : SY P ye) {r : Option Nat} {top : Bool} (htop : top = true → r = none) {ops : Array Oper} {M0 : Mem} {w0 : World} {s' : St} {Q : Exit → Act → World → Prop}
    (hK : ∀ M w a, Rep M s' w a → Ext M0 w0 M w → Q .normal a w) :
    ∀ (l : List Oper) (i : Nat), (∀ j o, l[j]? = some o → ops[i + j]? = some o) → i + l.length = ops.size → ∀ s, evalR P cf ye top (fun j => (ops[j]?).bind (·.dst)) l s = some s' → ∀ M w a, Rep M s w a → Ext M0 w0 M w →
      wpOpsIn (WF r) 0 P ops Q (List.range' i l.length) a w
  | [], i, _, _, s, h, M, w, a, hr, he => by
    simp only [evalR, Option.some.injEq] at h
    subst h
    exact hK M w a hr he
  | o :: rest, i, hl, hn, s, h, M, w, a, hr, he => by
    have ho : ops[i]? = some o := by simpa using hl 0 o rfl
    simp only [List.length_cons, List.range'_succ, wpOpsIn, ho]
    have ih := evalR_ok hcf hye (r := r) htop hK rest (i + 1) (fun j o' hj => by have := hl (j + 1) o' (by simpa using hj); rwa [show i + (j + 1) = i + 1 + j by omega] at this) (by simp at hn; omega)
    simp only [evalR] at h
    obtain ⟨hroom, h⟩ := bif_some h
    split at h
    · rename_i hg
      rw [if_pos (guard_ok hr.t hg)]
      split at h
      · rename_i x hx
        obtain ⟨ht, h⟩ := bif_some h
        have := htop ht
        subst this
        obtain ⟨d, e1, e2⟩ := defer_run (P := P) hr hx
        refine ⟨fun _ _ => trivial, ?_⟩
        rw [show o.semAt (WF none).round a.eval = execOp a.eval o from rfl, e1, Oper.uponIn_defer]
        exact ih _ h M w _ ((hr.defer e2).put .un hroom) he
      · cases h
      split at h
      case h_2 => cases h
      rename_i d h' hop
      exact evalOp_ok hcf hye hr.h (fun x => hr.val x) hop _ _ fun M' w' v e1 e2 e3 => ih _ h M' w' _ ((hr.mono e3.le e1).put e2 hroom) (he.trans e3)
    · rename_i hg
      rw [if_neg (by rw [guard_ok hr.t hg]; simp)]
      exact ⟨fun _ _ => trivial, ih _ h M w _ (hr.put .un hroom) he⟩
    · cases h

theorem region_ok {P : Program} {cf : CF} {ye : YE} (hcf : SF P cf) (hye : SY P ye) {r : Option Nat} {top : Bool} (htop : top = true → r = none) {id : Nat} {ops : Array Oper} {M : Mem} {w : World} {a : Act} {s s' : St} {Q : Exit → Act → World → Prop} (hr : Rep M s w a)
    (he : evalR P cf ye top (fun j => (ops[j]?).bind (·.dst)) ops.toList s = some s') (hK : ∀ M' w' a', Rep M' s' w' a' → Ext M w M' w' → Q .normal a' w') : (Code.region id ops false).wpIn (WF r) 0 P Q a w := by
  refine wpIn_region ?_
  rw [List.range_eq_range']
  have := evalR_ok hcf hye (r := r) htop (ops := ops) hK ops.toList 0 (fun j o hj => by simpa using hj) (by simp) s he M w a hr (Ext.refl M w)
  simpa using this

/-! ### Results -/
def resE (P : Program) (s : St) : List ResultVar → Option (List D)
  | [] => some []
  | .tmp t :: r => (resE P s r).map (valT s.tm (.tmp t) :: ·)
  | .cell t ty :: r => match tiOf P ty with
    | some ti => (match loadE s.h ti (valT s.tm (.tmp t)) with
      | some d => (resE P s r).map (d :: ·)
      | none => none)
    | none => none

def packD : List D → D
  | [d] => d
  | l => .tup l

theorem resE_ok {P : Program} {M : Mem} {s : St} {w : World} {ts : Array Value} (hr : RH M s.h w) (hv : ∀ t, R M (valT s.tm (.tmp t)) (ts.getD t undef)) : ∀ (l : List ResultVar) (ds : List D), resE P s l = some ds →
    ∃ vs, (l.mapM fun (x : ResultVar) => match x with | .tmp t => pure (ts.getD t undef) | .cell p t => (do loadVar t (← asAddr (ts.getD p undef)) : Sem Value)).run P w = .ok vs w ∧
      vs.length = ds.length ∧ (∀ (i : Nat) d, ds[i]? = some d → R M d (vs.getD i undef))
  | [], ds, h => by
    simp only [resE, Option.some.injEq] at h
    subst h
    exact ⟨[], by simp, rfl, by simp⟩
  | .tmp t :: r, ds, h => by
    simp only [resE, Option.map_eq_some_iff] at h
    obtain ⟨ds', h, rfl⟩ := h
    obtain ⟨vs, h1, h2, h3⟩ := resE_ok hr hv r _ h
    refine ⟨ts.getD t undef :: vs, ?_, by simp [h2], fun i d hi => ?_⟩
    · simp only [List.mapM_cons, Sem.run_bind, Sem.run_pure, Result.andThen_ok, h1]
    · cases i with
      | zero => simp at hi; subst hi; exact hv t
      | succ i => exact h3 i d (by simpa using hi)
  | .cell p ty :: r, ds, h => by
    simp only [resE] at h
    split at h
    case h_2 => cases h
    rename_i ti hti
    obtain ⟨it, dt, zt, ht⟩ := tiOf_spec hti
    split at h
    case h_2 => cases h
    rename_i y hy
    simp only [Option.map_eq_some_iff] at h
    obtain ⟨ds', h, rfl⟩ := h
    obtain ⟨u, e1, e2⟩ := load_ok ht hr hy (hv p)
    obtain ⟨vs, h1, h2, h3⟩ := resE_ok hr hv r _ h
    have e1' := Aw.loadAt_asAddr e1
    refine ⟨u :: vs, ?_, by simp [h2], fun i d hi => ?_⟩
    · simp only [List.mapM_cons]
      rw [Sem.run_bind]
      have : (do loadVar ty (← asAddr (ts.getD p undef)) : Sem Value).run P w = .ok u w := e1'
      rw [this]
      simp only [Result.andThen_ok, Sem.run_bind, h1, Sem.run_pure]
    · cases i with
      | zero => simp at hi; subst hi; exact e2
      | succ i => exact h3 i d (by simpa using hi)

theorem results_ok {P : Program} {M : Mem} {s : St} {w : World} {ts : Array Value} (hr : RH M s.h w) (hv : ∀ t, R M (valT s.tm (.tmp t)) (ts.getD t undef)) (fn : Func) {ds : List D} (h : resE P s fn.results.toList = some ds) :
    ∃ v, (results fn ts).run P w = .ok v w ∧ R M (packD ds) v := by
  obtain ⟨vs, h1, h2, h3⟩ := resE_ok hr hv _ _ h
  have hm : (fn.results.mapM fun (x : ResultVar) => match x with | .tmp t => pure (ts.getD t undef) | .cell p t => (do loadVar t (← asAddr (ts.getD p undef)) : Sem Value)).run P w = .ok vs.toArray w := by
    rw [Array.mapM_eq_mapM_toList, Sem.run_map, h1]
    rfl
  refine ⟨if h : vs.toArray.size = 1 then vs.toArray[0] else .tuple vs.toArray, ?_, ?_⟩
  · unfold results
    rw [Sem.run_bind]
    exact congrArg (fun r => Result.andThen r fun (a : Array Value) w' => Sem.run P (pure (if h : a.size = 1 then a[0] else Value.tuple a)) w') hm
  · match ds, vs, h2, h3 with
    | [d], [v], _, h3 => simpa [packD] using h3 0 d rfl
    | [], [], _, _ => exact .tup _ _ rfl (by simp)
    | d :: e :: r, v :: u :: q, h2, h3 =>
      simp only [packD]
      rw [dif_neg (by simp)]
      exact .tup _ _ (by simpa using h2) (fun i x hi => by
        have := h3 i x hi
        rwa [show (v :: u :: q).toArray.getD i undef = (v :: u :: q).getD i undef by simp [Array.getD_eq_getD_getElem?, List.getD_eq_getElem?_getD]])

/-! ### The marks, and what is deferred -/
def takeE (P : Program) (ex : CF) : List DF → H → Option H
  | [], h => some h
  | .mark l :: r, h => (match h.hp.get l with
    | some .dfr => takeE P ex r { h with hp := h.hp.del l }
    | _ => none)
  | .fn g caps args :: r, h => bif enters P g then (match ex g (args ++ caps) h with
    | some _ => takeE P ex r h
    | none => none) else none

theorem leaves_ok {P : Program} {ex : CF} (hq : SQ P ex) {fn : Func} {ts : Array Value} {M0 : Mem} {w0 : World} {M : Mem} {R' : Ending → World → Prop} {tm : T D} {n : Nat} (hv : RT M n tm ts) {dd : D} {hend : H} :
    ∀ (ls : List DF) (ds : List Deferred) (h : H) (w : World), RH M h w → Ext M0 w0 M w → DfsOk M ls ds → takeE P ex ls h = some hend →
      (resE P { n := n, tm := tm, h := hend, df := [] } fn.results.toList).map packD = some dd → (∀ v w', RH M hend w' → R M dd v → Ext M0 w0 M w' → R' (.returned v) w') →
      LeavesInM (WF none) 0 P fn ts R' ds .returning w
  | [], [], h, w, hr, he, _, ht, hres, hK => by
    simp only [takeE, Option.some.injEq] at ht
    subst ht
    simp only [Option.map_eq_some_iff] at hres
    obtain ⟨ds, hds, rfl⟩ := hres
    have hval : ∀ t, R M (valT tm (.tmp t)) (ts.getD t undef) := fun t => by
      simp only [valT]
      cases hl : tm.get t with
      | none => exact .any _
      | some d => exact hv.2 t d hl
    obtain ⟨v, h1, h2⟩ := results_ok (s := { n := n, tm := tm, h := h, df := [] }) hr hval fn hds
    exact ⟨v, h1, hK v w hr h2 he⟩
  | x :: ls, d :: ds, h, w, hr, he, hdf, ht, hres, hK => by
    obtain ⟨d', hd', hx⟩ := hdf.2 0 x rfl
    simp only [List.getElem?_cons_zero, Option.some.injEq] at hd'
    subst hd'
    have hdf' : DfsOk M ls ds := ⟨by simpa using hdf.1, fun i k hk => by have := hdf.2 (i + 1) k (by simpa using hk); simpa using this⟩
    cases x with
    | mark l =>
      simp only [takeE] at ht
      split at ht
      case h_2 => cases ht
      rename_i hg
      obtain ⟨b, rfl, ha⟩ := hx
      obtain ⟨c, hl, hbk⟩ := hr.look hg ha
      have hbk : w.heap[b]? = some (.deferred (some [])) := hbk
      have hlt : b < w.heap.size := (Array.getElem?_eq_some_iff.1 hbk).1
      refine ⟨by simp, .inl ⟨b, w.putObj b (.deferred none), rfl, run_takeDeferred hbk, ?_⟩⟩
      obtain ⟨g1, g2⟩ := hr.drop (w' := w.putObj b (.deferred none)) hl rfl rfl rfl (by simp [World.putObj]) (fun m hm => by simp only [World.putObj]; rw [Array.getElem?_setIfInBounds_ne (fun q => hm q.symm)])
      exact leaves_ok hq hv ls ds _ _ g1 (he.trans g2) hdf' ht hres hK
    | fn g caps args =>
      simp only [takeE] at ht
      obtain ⟨hen, ht⟩ := bif_some ht
      split at ht
      case h_2 => cases ht
      rename_i p hp
      obtain ⟨dx, hx'⟩ := p
      obtain ⟨v1, v2, rfl, a1, a2⟩ := hx
      have hcall := hq _ _ _ _ _ hp hen M w (v1 ++ v2) hr (argsOk_append a1 a2)
      refine ⟨by simp, .inr ⟨fun h => by simp [WF] at h, .func g, v2, g, v1 ++ v2, rfl, ?_, fun _ _ => trivial, ?_⟩⟩
      · show (callFunc g (v1 ++ v2)).run P w = _
        exact callFunc_run hen _ w
      · refine hcall.mono ?_
        rintro e u' w' ⟨⟨v, rfl⟩, rfl, rfl⟩
        exact leaves_ok hq hv ls ds h w' hr he hdf' ht hres hK
  | [], _ :: _, _, _, _, _, h, _, _, _ => by simp [DfsOk] at h
  | _ :: _, [], _, _, _, _, h, _, _, _ => by simp [DfsOk] at h

end Go.Ev

/-
  Code; ranges over functions; functions; the engine.
-/
namespace Go.Ev
open Go.Aw (litOk tiOf TIs tiOf_spec WF enters callFunc_run callsIn_WF wpIn_loop_rel)

inductive EX where
  | normal
  | exit (id : Nat)
  | ret

def EX.toExit : EX → Exit
  | .normal => .normal
  | .exit id => .exit id
  | .ret => .ret

def EX.jump : EX → Option Code
  | .normal => none
  | .exit id => some (.exit id)
  | .ret => some .ret

def EX.isN : EX → Bool
  | .normal => true
  | _ => false

/-- What a round has left to be done. -/
def jumpE : Option Code → Option EX
  | none => some .normal
  | some .ret => some .ret
  | some (.exit id) => some (.exit id)
  | _ => none

def notBusy : LoopState → Bool
  | .busy => false
  | _ => true

def isReady : LoopState → Bool
  | .ready => true
  | _ => false

/-- The record of a range over a function. -/
def enterE (rl : Option Nat) (ps : Array Tmp) (assign body : Code) (s : St) : Option (Nat × H × List DF) :=
  match rl with
  | none => some (s.h.nx + 1, { hp := (s.h.hp.set s.h.nx .dfr).set (s.h.nx + 1) (.loop { n := s.n, tm := s.tm, ps := ps, assign := assign, body := body, st := .ready, pend := none, df := s.h.nx }), nx := s.h.nx + 2 }, .mark s.h.nx :: s.df)
  | some l => (match s.h.hp.get l with
    | some (.loop L) => some (s.h.nx, { hp := s.h.hp.set s.h.nx (.loop { n := s.n, tm := s.tm, ps := ps, assign := assign, body := body, st := .ready, pend := none, df := L.df }), nx := s.h.nx + 1 }, s.df)
    | _ => none)

def loopE (P : Program) (cf : CF) (rl : Option Nat) (g : Operand) (ps : Array Tmp) (assign body : Code) (s : St) : Option (EX × St) :=
  match enterE rl ps assign body s with
  | some (ll, h1, df) => (match valT s.tm g with
    | .fn (.func gg) first caps => (match bif enters P gg then cf gg (first ++ (.yl ll :: caps)) h1 else none with
      | some (_, h2) => (match h2.hp.get ll with
        | some (.loop L) => bif notBusy L.st then (match jumpE L.pend with
            | some x => some (x, { s with h := { h2 with hp := h2.hp.set ll (.loop { L with st := .exhausted }) }, df := df })
            | none => none) else none
        | _ => none)
      | none => none)
    | _ => none)
  | none => none

def evalC (P : Program) (cf : CF) (ye : YE) (dr : Array Oper → St → Option St) (rl : Option Nat) : Nat → Code → St → Option (EX × St)
  | 0, _, _ => none
  | n + 1, .skip, s => some (.normal, s)
  | n + 1, .label _, s => some (.normal, s)
  | n + 1, .exit id, s => some (.exit id, s)
  | n + 1, .ret, s => some (.ret, s)
  | n + 1, .seq a b, s => (match evalC P cf ye dr rl n a s with
    | some (.normal, s') => evalC P cf ye dr rl n b s'
    | x => x)
  | n + 1, .block id c, s => (match evalC P cf ye dr rl n c s with
    | some (.exit j, s') => some (bif Nat.beq j id then .normal else .exit j, s')
    | x => x)
  | n + 1, .loop c, s => (match evalC P cf ye dr rl n c s with
    | some (.normal, s') => evalC P cf ye dr rl n (.loop c) s'
    | x => x)
  | n + 1, .cond c x y, s => (match valT s.tm c with
    | .lit (.bool b) => bif b then evalC P cf ye dr rl n x s else evalC P cf ye dr rl n y s
    | _ => none)
  | n + 1, .region _ ops draw, s => (match (bif draw then dr ops s else evalR P cf ye rl.isNone (fun j => (ops[j]?).bind (·.dst)) ops.toList s) with
    | some s' => some (.normal, s')
    | none => none)
  | n + 1, .rangeFunc g ps assign body, s => loopE P cf rl g ps assign body s
  | n + 1, .scope c, s => evalC P cf ye dr rl n c s
  | _ + 1, _, _ => none

def RelR (M : Mem) : Option Nat → Option Nat → Prop
  | none, none => True
  | some l, some b => M.at l b
  | _, _ => False

theorem RelR.mono {M M' : Mem} (h : M.le M') {a b : Option Nat} (hr : RelR M a b) : RelR M' a b := by
  cases a <;> cases b <;> simp only [RelR] at hr ⊢
  exact hr.mono h

/-- What is told of regions that draw their order is so. -/
def SD (P : Program) (dr : Array Oper → St → Option St) : Prop := ∀ ops s s', dr ops s = some s' → ∀ id r M w a Q, Rep M s w a →
  (∀ M' w' a', Rep M' s' w' a' → Ext M w M' w' → Q .normal a' w') → (Code.region id ops true).wpIn (WF r) 0 P Q a w

theorem enter_ok {P : Program} {rl r : Option Nat} {ps : Array Tmp} {assign body : Code} {s : St} {ll : Nat} {h1 : H} {df : List DF} (he : enterE rl ps assign body s = some (ll, h1, df)) {M : Mem} {w : World} {a : Act} (hrl : RelR M rl r) (hr : Rep M s w a) (fn : FuncId) :
    ∃ l mark w1 M1, (Instr.enterLoop fn a.tmps ps assign body r).run P w = .ok (l, mark) w1 ∧ RH M1 h1 w1 ∧ Ext M w M1 w1 ∧ M1.at ll l ∧ Rep M1 { s with h := h1, df := df } w1 { a with defers := mark ++ a.defers } := by
  unfold enterE at he
  split at he
  · -- an outermost loop
    cases he
    cases r with
    | some _ => exact hrl.elim
    | none =>
    have hd : ∀ M' : Mem, RB M' (w.alloc (.deferred (some []))) .dfr w.heap.size 0 := fun M' => Aw.halloc_new w _
    obtain ⟨g1, g2⟩ := hr.h.fresh (w' := w.alloc (.deferred (some []))) .dfr w.heap.size 0 rfl rfl rfl (by simp) (fun n hn => Aw.halloc_old w _ n hn) (by simp) (fun _ => hd _)
    have hat : (M.set s.h.nx (.blk w.heap.size 0) (s.h.nx + 1)).at s.h.nx w.heap.size := ⟨by simp [Mem.set], fun b' c' e => by simp [Mem.set] at e; exact e.1.symm, by simp [Mem.set]⟩
    have hsz : (w.alloc (.deferred (some []))).heap.size = w.heap.size + 1 := by simp
    obtain ⟨k1, k2⟩ := g1.fresh (w' := (w.alloc (.deferred (some []))).alloc (.loop { state := .ready, pending := none, fn, tmps := a.tmps, params := ps, assign, body, defers := w.heap.size }))
      (.loop { n := s.n, tm := s.tm, ps := ps, assign := assign, body := body, st := .ready, pend := none, df := s.h.nx }) (w.heap.size + 1) 0 rfl rfl rfl (by simp) (fun n hn => Aw.halloc_old _ _ n hn) (by simp)
      (fun hle => ⟨fn, a.tmps, w.heap.size, by have := Aw.halloc_new (w.alloc (.deferred (some []))) (.loop { state := .ready, pending := none, fn, tmps := a.tmps, params := ps, assign, body, defers := w.heap.size }); rw [hsz] at this; exact this, (hr.t.mono g2.le).mono hle, hat.mono hle⟩)
    refine ⟨w.heap.size + 1, _, _, _, run_enterLoop_outer fn a.tmps ps assign body, k1, g2.trans k2, ⟨by simp [Mem.set], fun b' c' e => by simp [Mem.set] at e; exact e.1.symm, by simp [Mem.set]⟩, k1, (hr.t.mono g2.le).mono k2.le, ?_⟩
    exact ((hr.df.mono g2.le).mono k2.le).cons ⟨w.heap.size, rfl, hat.mono k2.le⟩
  · rename_i l0
    split at he
    case h_2 => cases he
    rename_i L hL
    cases he
    cases r with
    | none => exact hrl.elim
    | some b0 =>
    obtain ⟨c, hl, fn0, ts0, dv, q1, q2, q3⟩ := hr.h.look hL hrl
    obtain ⟨k1, k2⟩ := hr.h.fresh (w' := w.alloc (.loop { state := .ready, pending := none, fn, tmps := a.tmps, params := ps, assign, body, defers := dv }))
      (.loop { n := s.n, tm := s.tm, ps := ps, assign := assign, body := body, st := .ready, pend := none, df := L.df }) w.heap.size 0 rfl rfl rfl (by simp) (fun n hn => Aw.halloc_old _ _ n hn) (by simp)
      (fun hle => ⟨fn, a.tmps, dv, Aw.halloc_new _ _, hr.t.mono hle, q3.mono hle⟩)
    refine ⟨w.heap.size, _, _, _, run_enterLoop_inner q1 fn a.tmps ps assign body, k1, k2, ⟨by simp [Mem.set], fun b' c' e => by simp [Mem.set] at e; exact e.1.symm, by simp [Mem.set]⟩, k1, hr.t.mono k2.le, ?_⟩
    exact hr.df.mono k2.le

theorem jump_ok {P : Program} {r : Option Nat} {p : Option Code} {x : EX} (h : jumpE p = some x) {Q : Exit → Act → World → Prop} {a : Act} {w : World} (hq : Q x.toExit a w) :
    (match (generalizing := false) p with | none => Q .normal a w | some c => c.wpIn (WF r) 0 P Q a w) := by
  unfold jumpE at h
  split at h
  · cases h; exact hq
  · cases h; exact wpIn_ret hq
  · cases h; exact wpIn_exit hq
  · cases h

theorem loop_ok {P : Program} {cf : CF} (hcf : SF P cf) {rl r : Option Nat} {g : Operand} {ps : Array Tmp} {assign body : Code} {s s' : St} {x : EX} (he : loopE P cf rl g ps assign body s = some (x, s')) {M : Mem} {w : World} {a : Act} (hrl : RelR M rl r) (hr : Rep M s w a)
    {Q : Exit → Act → World → Prop} (hK : ∀ M' w' a', Rep M' s' w' a' → Ext M w M' w' → Q x.toExit a' w') : (Code.rangeFunc g ps assign body).wpIn (WF r) 0 P Q a w := by
  unfold loopE at he
  split at he
  case h_2 => cases he
  rename_i ll h1 df hen
  split at he
  case h_2 => cases he
  rename_i gg first caps hfd
  split at he
  case h_2 => cases he
  rename_i d2 h2 hcall
  split at he
  case h_2 => cases he
  rename_i L hL
  obtain ⟨hnb, he⟩ := bif_some he
  split at he
  case h_2 => cases he
  rename_i x' hx
  cases he
  obtain ⟨hent, hcall⟩ := bif_some hcall
  have hcalls : ∀ M w vs, RH M h1 w → argsOk M (first ++ (.yl ll :: caps)) vs → Calls P gg vs w (Post M w d2 h2) := by
    rcases hcf _ _ _ _ _ hcall with ⟨_, hc⟩ | ⟨hc, _⟩
    · exact hc
    · rw [hent] at hc; cases hc
  have hg := hr.val g
  rw [hfd] at hg
  refine wpIn_rangeFunc fun fn _ => ?_
  obtain ⟨l, mark, w1, M1, e1, e2, e3, e4, e5⟩ := enter_ok (P := P) hen hrl hr fn
  generalize hv : a.eval g = fv at hg
  cases hg with
  | fn _ _ _ v1 v2 q1 q2 r1 r2 =>
  have hargs : argsOk M1 (first ++ (.yl ll :: caps)) (v1 ++ (#[.func (.yield l) #[] #[]] ++ v2)) := by
    refine argsOk_append ⟨q1, fun i d hi => (r1 i d hi).mono e3.le⟩ (argsOk_append (a := [.yl ll]) ⟨rfl, fun i d hi => ?_⟩ ⟨q2, fun i d hi => (r2 i d hi).mono e3.le⟩)
    cases i with
    | zero => simp at hi; subst hi; exact .yl ll l e4
    | succ i => simp at hi
  refine ⟨l, mark, w1, { target := .fn (.func gg) v2, args := v1 ++ #[.func (.yield l) #[] #[]] }, w1, gg, v1 ++ #[.func (.yield l) #[] #[]] ++ v2, w1, e1, ?_, fun _ _ => trivial, ?_, fun h => by simp [WF] at h, callsIn_WF ((hcalls M1 w1 _ e2 (by rw [Array.append_assoc]; exact hargs)).mono ?_)⟩
  · have ha : (rangeCall g l).args.map a.eval = #[.func (.yield l) #[] #[]] := by simp [Act.eval]
    simp only [resolve, ha, hv, Deferred.ofValue, Sem.run_pure]
  · exact callFunc_run hent _ w1
  · rintro e w2 ⟨v, M2, rfl, f1, f2, f3⟩
    have hat2 := e4.mono f3.le
    obtain ⟨c, hl, fn0, ts0, dv, p1, p2, p3⟩ := f1.look hL hat2
    have hlt : l < w2.heap.size := (Array.getElem?_eq_some_iff.1 p1).1
    have hnb' : L.st ≠ .busy := fun q => by rw [q] at hnb; cases hnb
    refine ⟨L.pend, _, run_endLoop p1 hnb', ?_⟩
    obtain ⟨k1, k2⟩ := f1.write (w' := w2.putObj l (.loop { state := .exhausted, pending := L.pend, fn := fn0, tmps := ts0, params := L.ps, assign := L.assign, body := L.body, defers := dv })) hl (.loop { L with st := .exhausted }) rfl rfl rfl (by simp [World.putObj])
      (fun b hb => World.putObj_heap_other hb) ⟨fn0, ts0, dv, World.putObj_heap_same hlt, p2, p3⟩
    have hq := hK M2 _ _ ((e5.mono (f3.le) f1).mono k2.le k1) ((e3.trans f3).trans k2)
    exact jump_ok hx hq

section
variable {F : Fence} {m : Nat} {P : Program} {b : Frame} {a : Act} {k : List Item} {cs : List Frame} {w : World} {Q : Exit → Act → World → Prop}
theorem stepR_scope {c : Code} : step P (lone (b.atR a (.code (.scope c) :: k)) cs w) = .next (lone (b.atR a (.code c :: .inScope c :: k)) cs w) :=
  step_lone_go (by simp [stepG, stepG.exec, Frame.atR])
theorem stepR_inScope {c : Code} : step P (lone (b.atR a (.inScope c :: k)) cs w) = .next (lone (b.atR a k) cs w) :=
  step_lone_go (by simp [stepG, stepG.exec, Frame.atR])
def noGoto (Q : Exit → Act → World → Prop) : Exit → Act → World → Prop
  | .goto _, _, _ => False
  | e, a, w => Q e a w
/-- A scope out of which no goto goes. -/
theorem wpIn_scope {c : Code} (h : c.wpIn F m P (noGoto Q) a w) : (Code.scope c).wpIn F m P Q a w := by
  intro b k cs hro hb hr
  have h0 : (lone (b.atR a (.code (.scope c) :: k)) cs w).fenced P F := fenced_calm hb hr rfl
  obtain ⟨e, a₁, w₁, hq, harr⟩ := h b (.inScope c :: k) cs hro hb hr
  cases e with
  | normal => exact ⟨.normal, a₁, w₁, hq, .head h0 stepR_scope (StepsIn.trans harr (.one (fenced_calm hb hr rfl) stepR_inScope))⟩
  | exit id =>
    have hx : exitTo id (.inScope c :: k) = exitTo id k := by simp [exitTo]
    exact ⟨.exit id, a₁, w₁, hq, fun k' hk => .head h0 stepR_scope (harr.1 k' (by rw [hx]; exact hk)),
      fun hr' hk => let ⟨k₁, h1, h2⟩ := harr.2 hr' (by rw [hx]; exact hk); ⟨k₁, h1, .head h0 stepR_scope h2⟩⟩
  | goto l => exact hq.elim
  | ret => exact ⟨_, a₁, w₁, hq, .of_steps (.one h0 stepR_scope) harr⟩
  | panic ch => exact ⟨_, a₁, w₁, hq, .of_steps (.one h0 stepR_scope) harr⟩
  | outgrown => exact ⟨_, a₁, w₁, hq, .of_steps (.one h0 stepR_scope) harr⟩
end

theorem evalC_ok {P : Program} {cf : CF} {ye : YE} {dr : Array Oper → St → Option St} (hcf : SF P cf) (hye : SY P ye) (hdr : SD P dr) {rl : Option Nat} (n : Nat) : ∀ (c : Code) (s : St) (x : EX) (s' : St), evalC P cf ye dr rl n c s = some (x, s') →
    ∀ (r : Option Nat) (M : Mem) (w : World) (a : Act) (Q : Exit → Act → World → Prop), RelR M rl r → Rep M s w a → (∀ M' w' a', Rep M' s' w' a' → Ext M w M' w' → Q x.toExit a' w') → c.wpIn (WF r) 0 P Q a w := by
  induction n using Nat.strongRecOn with
  | _ n ih =>
  intro c s x s' he r M w a Q hrl hr hK
  cases n with
  | zero => simp [evalC] at he
  | succ n =>
  cases c <;> simp only [evalC, reduceCtorEq] at he
  case skip => cases he; exact wpIn_skip (hK M w a hr (Ext.refl M w))
  case label l => cases he; exact wpIn_label (hK M w a hr (Ext.refl M w))
  case exit id => cases he; exact wpIn_exit (hK M w a hr (Ext.refl M w))
  case ret => cases he; exact wpIn_ret (hK M w a hr (Ext.refl M w))
  case scope c1 => exact wpIn_scope (ih n (by omega) c1 s x s' he r M w a _ hrl hr fun M' w' a' g1 g2 => by cases x <;> exact hK M' w' a' g1 g2)
  case seq c1 c2 =>
    refine wpIn_seq ?_
    cases h1 : evalC P cf ye dr rl n c1 s with
    | none => rw [h1] at he; cases he
    | some p =>
      obtain ⟨y, s1⟩ := p
      rw [h1] at he
      cases y with
      | normal =>
        refine ih n (by omega) c1 s .normal s1 h1 r M w a _ hrl hr fun M1 w1 a1 g1 g2 => ?_
        exact ih n (by omega) c2 s1 x s' he r M1 w1 a1 Q (hrl.mono g2.le) g1 fun M2 w2 a2 k1 k2 => hK M2 w2 a2 k1 (g2.trans k2)
      | exit id => cases he; exact ih n (by omega) c1 s _ _ h1 r M w a _ hrl hr fun M1 w1 a1 g1 g2 => hK M1 w1 a1 g1 g2
      | ret => cases he; exact ih n (by omega) c1 s _ _ h1 r M w a _ hrl hr fun M1 w1 a1 g1 g2 => hK M1 w1 a1 g1 g2
  case block id c1 =>
    refine wpIn_block ?_
    cases h1 : evalC P cf ye dr rl n c1 s with
    | none => rw [h1] at he; cases he
    | some p =>
      obtain ⟨y, s1⟩ := p
      rw [h1] at he
      refine ih n (by omega) c1 s y s1 h1 r M w a _ hrl hr fun M1 w1 a1 g1 g2 => ?_
      cases y with
      | normal => cases he; exact hK M1 w1 a1 g1 g2
      | ret => cases he; exact hK M1 w1 a1 g1 g2
      | exit j =>
        simp only [Option.some.injEq, Prod.mk.injEq] at he
        obtain ⟨rfl, rfl⟩ := he
        have := hK M1 w1 a1 g1 g2
        simp only [EX.toExit, Exit.inBlock]
        split
        · rename_i hj
          subst hj
          simpa [EX.toExit] using this
        · rename_i hj
          have : Nat.beq j id = false := by
            cases hb : Nat.beq j id with
            | true => exact absurd (Nat.eq_of_beq_eq_true hb) hj
            | false => rfl
          rw [this] at hK
          exact hK M1 w1 a1 g1 g2
  case loop c1 =>
    refine wpIn_loop_rel (fun j a1 w1 => j ≤ n ∧ ∃ M1 s1, Rep M1 s1 w1 a1 ∧ Ext M w M1 w1 ∧ evalC P cf ye dr rl (j + 1) (.loop c1) s1 = some (x, s')) ?_ n a w ⟨Nat.le_refl _, M, s, hr, Ext.refl M w, by simpa only [evalC] using he⟩
    rintro j a1 w1 ⟨hj, M1, s1, k1, k2, k3⟩
    simp only [evalC] at k3
    cases h1 : evalC P cf ye dr rl j c1 s1 with
    | none => rw [h1] at k3; cases k3
    | some p =>
      obtain ⟨y, s2⟩ := p
      rw [h1] at k3
      refine ih j (by omega) c1 s1 y s2 h1 r M1 w1 a1 _ (hrl.mono k2.le) k1 fun M2 w2 a2 g1 g2 => ?_
      cases y with
      | normal =>
        cases j with
        | zero => simp [evalC] at k3
        | succ j => exact ⟨j, Nat.lt_succ_self j, by omega, M2, s2, g1, k2.trans g2, k3⟩
      | exit id => cases k3; exact hK M2 w2 a2 g1 (k2.trans g2)
      | ret => cases k3; exact hK M2 w2 a2 g1 (k2.trans g2)
  case cond c0 c1 c2 =>
    split at he
    case h_2 => cases he
    rename_i b hb
    have hv := hr.val c0
    rw [hb] at hv
    have hv := hv.litE
    cases b with
    | true => exact wpIn_cond_true hv (ih n (by omega) c1 s x s' he r M w a Q hrl hr hK)
    | false => exact wpIn_cond_false hv (ih n (by omega) c2 s x s' he r M w a Q hrl hr hK)
  case region id ops draw =>
    split at he
    case h_2 => cases he
    rename_i s1 h1
    cases he
    cases draw with
    | true => exact hdr ops s _ h1 id r M w a Q hr hK
    | false =>
      refine region_ok hcf hye (top := rl.isNone) (fun ht => ?_) hr h1 hK
      cases rl with
      | some l => cases ht
      | none => cases r with
        | none => rfl
        | some b => exact hrl.elim
  case rangeFunc g ps assign body => exact loop_ok hcf he hrl hr hK

/-! ### Functions -/
def argsT : Nat → List D → T D → T D
  | _, [], t => t
  | k, d :: r, t => argsT (k + 1) r (t.set k d)

theorem get_argsT : ∀ (l : List D) (k : Nat) (t0 : T D) (t : Nat) (d : D), (argsT k l t0).get t = some d → (k ≤ t ∧ l[t - k]? = some d) ∨ t0.get t = some d
  | [], k, t0, t, d, h => .inr h
  | e :: r, k, t0, t, d, h => by
    rcases get_argsT r (k + 1) (t0.set k e) t d h with ⟨h1, h2⟩ | h1
    · left
      refine ⟨by omega, ?_⟩
      rw [show t - k = (t - (k + 1)) + 1 by omega]
      simpa using h2
    · rw [T.get_set] at h1
      by_cases hk : k = t
      · subst hk
        rw [if_pos rfl] at h1
        cases h1
        exact .inl ⟨Nat.le_refl _, by simp⟩
      · rw [if_neg hk] at h1
        exact .inr h1

def evalF (P : Program) (ex : CF) (cf : CF) (ye : YE) (dr : Array Oper → St → Option St) (N : Nat) : CF := fun g args h =>
  bif enters P g then (match P.funcs[g]? with
    | some fn => (match fn.body with
      | some c => bif Nat.ble args.length fn.ntmps then (match evalC P cf ye dr none N c { n := fn.ntmps, tm := argsT 0 args .e, h := h, df := [] } with
        | some (.exit _, _) => none
        | some (_, s) => (match takeE P ex s.df s.h with
          | some hend => (match (resE P { n := fn.ntmps, tm := s.tm, h := hend, df := [] } fn.results.toList).map packD with
            | some d => some (d, hend)
            | none => none)
          | none => none)
        | none => none) else none
      | none => none)
    | none => none) else ex g args h

theorem resE_n {P : Program} (n m : Nat) (tm : T D) (h : H) : ∀ l : List ResultVar, resE P { n := n, tm := tm, h := h, df := [] } l = resE P { n := m, tm := tm, h := h, df := [] } l
  | [] => rfl
  | .tmp t :: r => by simp only [resE, resE_n n m tm h r]
  | .cell t ty :: r => by simp only [resE, resE_n n m tm h r]

theorem evalF_ok {P : Program} {ex : CF} {cf : CF} {ye : YE} {dr : Array Oper → St → Option St} (hex : SX P ex) (hcf : SF P cf) (hye : SY P ye) (hdr : SD P dr) (N : Nat) : SF P (evalF P ex cf ye dr N) := by
  intro g args h d h' he
  unfold evalF at he
  cases hen : enters P g with
  | false =>
    rw [hen] at he
    exact .inr ⟨rfl, hex.1 _ _ _ _ _ he hen⟩
  | true =>
  rw [hen] at he
  simp only [cond_true] at he
  split at he
  case h_2 => cases he
  rename_i fn hfn
  split at he
  case h_2 => cases he
  rename_i c hb
  obtain ⟨hle, he⟩ := bif_some he
  simp only [Nat.ble_eq] at hle
  refine .inl ⟨rfl, fun M w vs hr hargs => (callsIn_wide (n := 0)).1 (callsIn_of_wp_marks (F := WF none) hfn hb trivial ?_)⟩
  have hrep : Rep M { n := fn.ntmps, tm := argsT 0 args .e, h := h, df := [] } w { tmps := vs ++ Array.replicate (fn.ntmps - vs.size) undef, defers := [] } := by
    refine ⟨hr, ⟨by simp [hargs.1]; omega, fun t e ht => ?_⟩, .nil⟩
    rcases get_argsT args 0 .e t e ht with ⟨_, h2⟩ | h2
    · simp only [Nat.sub_zero] at h2
      have hlt : t < vs.size := by rw [hargs.1]; exact (List.getElem?_eq_some_iff.1 h2).1
      have := hargs.2 t e h2
      rwa [show (vs ++ Array.replicate (fn.ntmps - vs.size) undef).getD t undef = vs.getD t undef by
        simp only [Array.getD_eq_getD_getElem?]
        rw [Array.getElem?_append_left hlt]]
    · simp [T.get] at h2
  have fin : ∀ s, (match takeE P ex s.df s.h with
          | some hend => (match (resE P { n := fn.ntmps, tm := s.tm, h := hend, df := [] } fn.results.toList).map packD with
            | some d => some (d, hend)
            | none => none)
          | none => none) = some (d, h') → ∀ M' w' a', Rep M' s w' a' → Ext M w M' w' → LeavesInM (WF none) 0 P fn a'.tmps (Post M w d h') a'.defers .returning w' := by
    intro s hs M' w' a' g1 g2
    split at hs
    case h_2 => cases hs
    rename_i hend ht
    split at hs
    case h_2 => cases hs
    rename_i d1 hres
    cases hs
    exact leaves_ok hex.2 (n := s.n) (M0 := M) (w0 := w) g1.t s.df _ s.h w' g1.h g2 g1.df ht (by rw [resE_n s.n fn.ntmps]; exact hres) (fun v w2 k1 k2 k3 => ⟨v, M', rfl, k1, k2, k3⟩)
  cases hc : evalC P cf ye dr none N c { n := fn.ntmps, tm := argsT 0 args .e, h := h, df := [] } with
  | none => rw [hc] at he; cases he
  | some p =>
    obtain ⟨x, s⟩ := p
    rw [hc] at he
    refine evalC_ok hcf hye hdr N c _ x s hc none M w _ _ trivial hrep fun M' w' a' g1 g2 => ?_
    cases x with
    | exit id => cases he
    | normal => exact fin s he M' w' a' g1 g2
    | ret => exact fin s he M' w' a' g1 g2
end Go.Ev

/-
  Rounds; the engine.
-/
namespace Go.Ev
open Go.Aw (litOk tiOf TIs tiOf_spec WF enters)

def setAll : List Tmp → List D → T D → T D
  | t :: ts, d :: ds, m => setAll ts ds (m.set t d)
  | _, _, m => m

theorem setAll_ok {M : Mem} {n : Nat} : ∀ (ts : List Tmp) (ds : List D) (vs : List Value) (m : T D) (tmps : Array Value), RT M n m tmps → ds.length = vs.length → (∀ (i : Nat) d, ds[i]? = some d → R M d (vs.getD i undef)) → ts.all (fun t => Nat.blt t n) = true →
    RT M n (setAll ts ds m) ((ts.zip vs).foldl (fun tmps (p : Tmp × Value) => tmps.setIfInBounds p.1 p.2) tmps)
  | [], ds, vs, m, tmps, h, _, _, _ => by simpa [setAll] using h
  | t :: ts, [], [], m, tmps, h, _, _, _ => by simpa [setAll] using h
  | t :: ts, [], _ :: _, m, tmps, h, hl, _, _ => by simp at hl
  | t :: ts, _ :: _, [], m, tmps, h, hl, _, _ => by simp at hl
  | t :: ts, d :: ds, v :: vs, m, tmps, h, hl, hr, ht => by
    simp only [List.all_cons, Bool.and_eq_true, Nat.blt_eq] at ht
    simp only [setAll, List.zip_cons_cons, List.foldl_cons]
    refine setAll_ok ts ds vs _ _ ⟨by simpa using h.1, fun u e hu => ?_⟩ (by simpa using hl) (fun i d hi => by have := hr (i + 1) d (by simpa using hi); simpa using this) ht.2
    rw [T.get_set] at hu
    by_cases hk : t = u
    · subst hk
      rw [if_pos rfl] at hu
      cases hu
      have := hr 0 d rfl
      have hlt : t < tmps.size := by rw [h.1]; exact ht.1
      simpa [Array.getD, hlt] using this
    · rw [if_neg hk] at hu
      have := h.2 u e hu
      rwa [show (tmps.setIfInBounds t v).getD u undef = tmps.getD u undef by simp [Array.getD_eq_getD_getElem?, Array.getElem?_setIfInBounds_ne hk]]

def evalY (P : Program) (cf : CF) (ye : YE) (dr : Array Oper → St → Option St) (N : Nat) : YE := fun l args h =>
  match h.hp.get l with
  | some (.loop L) => bif isReady L.st && (Nat.beq args.length L.ps.size && L.ps.toList.all (fun t => Nat.blt t L.n)) then
      (match evalC P cf ye dr (some l) N L.assign { n := L.n, tm := setAll L.ps.toList args L.tm, h := h, df := [] } with
      | some (.normal, s1) => (match s1.h.hp.get l with
        | some (.loop L1) => bif isReady L1.st then
            (match evalC P cf ye dr (some l) N L.body { s1 with h := { s1.h with hp := s1.h.hp.set l (.loop { L1 with st := .busy }) } } with
            | some (x, s3) => (match s3.h.hp.get l with
              | some (.loop L3) => some (.lit (.bool x.isN), { s3.h with hp := s3.h.hp.set l (.loop { L3 with st := bif x.isN then .ready else .done, pend := x.jump }) })
              | _ => none)
            | none => none) else none
        | _ => none)
      | _ => none) else none
  | _ => none

theorem ready_eq {st : LoopState} (h : isReady st = true) : st = .ready := by cases st <;> first | rfl | cases h

theorem evalY_ok {P : Program} {cf : CF} {ye : YE} {dr : Array Oper → St → Option St} (hcf : SF P cf) (hye : SY P ye) (hdr : SD P dr) (N : Nat) : SY P (evalY P cf ye dr N) := by
  intro l args h d h' he M w vs b hr hat hargs
  unfold evalY at he
  split at he
  case h_2 => cases he
  rename_i L hL
  obtain ⟨hc, he⟩ := bif_some he
  simp only [Bool.and_eq_true] at hc
  obtain ⟨hrd, hlen, hps⟩ := hc
  have hrd := ready_eq hrd
  have hlen := Nat.eq_of_beq_eq_true hlen
  obtain ⟨c, hl, fn, ts, dv, q1, q2, q3⟩ := hr.look hL hat
  split at he
  case h_2 => cases he
  rename_i s1 h1
  split at he
  case h_2 => cases he
  rename_i L1 hL1
  obtain ⟨hrd1, he⟩ := bif_some he
  have hrd1 := ready_eq hrd1
  split at he
  case h_2 => cases he
  rename_i x s3 h3
  split at he
  case h_2 => cases he
  rename_i L3 hL3
  cases he
  refine ⟨fn, _, L.assign, L.body, run_yield q1 (by rw [hargs.1, hlen]), fun r => roundIn_of_wpIn (F := WF r) trivial ?_⟩
  show L.assign.wpIn (WF (some b)) 0 P _ _ w
  have hRT : RT M L.n (setAll L.ps.toList args L.tm) ((L.ps.zip vs).foldl (fun tmps (p : Tmp × Value) => tmps.setIfInBounds p.1 p.2) ts) := by
    have := setAll_ok L.ps.toList args vs.toList L.tm ts q2 (by simpa using hargs.1.symm) (fun i d hi => by have := hargs.2 i d hi; rwa [show vs.toList.getD i undef = vs.getD i undef from Aw.getD_list vs i]) hps
    rwa [← Array.toList_zip, Array.foldl_toList] at this
  refine evalC_ok hcf hye hdr N L.assign _ .normal s1 h1 (some b) M w _ _ hat ⟨hr, hRT, .nil⟩ fun M1 w1 a1 g1 g2 => ?_
  obtain ⟨c1, hl1, fn1, ts1, dv1, p1, p2, p3⟩ := g1.h.look hL1 (hat.mono g2.le)
  have hlt1 : b < w1.heap.size := (Array.getElem?_eq_some_iff.1 p1).1
  refine ⟨_, run_beginRound p1 hrd1, ?_⟩
  obtain ⟨k1, k2⟩ := g1.h.write (w' := w1.putObj b (.loop { state := .busy, pending := L1.pend, fn := fn1, tmps := ts1, params := L1.ps, assign := L1.assign, body := L1.body, defers := dv1 })) hl1 (.loop { L1 with st := .busy }) rfl rfl rfl (by simp [World.putObj])
    (fun m hm => World.putObj_heap_other hm) ⟨fn1, ts1, dv1, World.putObj_heap_same hlt1, p2, p3⟩
  refine evalC_ok hcf hye hdr N L.body _ x s3 h3 (some b) M1 _ a1 _ (hat.mono g2.le) (g1.mono k2.le k1) fun M3 w3 a3 g3 g4 => ?_
  obtain ⟨c3, hl3, fn3, ts3, dv3, u1, u2, u3⟩ := g3.h.look hL3 ((hat.mono g2.le).mono g4.le)
  have hlt3 : b < w3.heap.size := (Array.getElem?_eq_some_iff.1 u1).1
  have fin : ∀ jump : Option Code, jump = x.jump → ∃ v w', (Instr.endRound b jump).run P w3 = .ok v w' ∧ Post M w (.lit (.bool x.isN)) { s3.h with hp := s3.h.hp.set l (.loop { L3 with st := bif x.isN then .ready else .done, pend := x.jump }) } (.returned v) w' := by
    intro jump hj
    subst hj
    refine ⟨_, _, run_endRound x.jump u1, ?_⟩
    obtain ⟨y1, y2⟩ := g3.h.write (w' := w3.putObj b (.loop { state := if x.jump.isNone then .ready else .done, pending := x.jump, fn := fn3, tmps := ts3, params := L3.ps, assign := L3.assign, body := L3.body, defers := dv3 })) hl3
      (.loop { L3 with st := bif x.isN then .ready else .done, pend := x.jump }) rfl rfl rfl (by simp [World.putObj])
      (fun m hm => World.putObj_heap_other hm) ⟨fn3, ts3, dv3, by
        rw [World.putObj_heap_same hlt3]
        cases x <;> rfl, u2, u3⟩
    refine ⟨_, M3, rfl, y1, ?_, ((g2.trans k2).trans g4).trans y2⟩
    cases x <;> exact .lit _ trivial
  cases x with
  | normal => exact fin none rfl
  | exit id => exact fin _ rfl
  | ret => exact fin _ rfl

/-! ### The engine -/
def eng (P : Program) (ex : CF) (dr : CF → YE → Array Oper → St → Option St) (N : Nat) : Nat → CF × YE
  | 0 => (fun _ _ _ => none, fun _ _ _ => none)
  | n + 1 => (evalF P ex (eng P ex dr N n).1 (eng P ex dr N n).2 (dr (eng P ex dr N n).1 (eng P ex dr N n).2) N, evalY P (eng P ex dr N n).1 (eng P ex dr N n).2 (dr (eng P ex dr N n).1 (eng P ex dr N n).2) N)

theorem eng_ok {P : Program} {ex : CF} (hex : SX P ex) {dr : CF → YE → Array Oper → St → Option St} (hdr : ∀ cf ye, SF P cf → SY P ye → SD P (dr cf ye)) (N : Nat) : ∀ n, SF P (eng P ex dr N n).1 ∧ SY P (eng P ex dr N n).2
  | 0 => ⟨fun _ _ _ _ _ h => (by cases h), fun _ _ _ _ _ h => (by cases h)⟩
  | n + 1 => by
    obtain ⟨h1, h2⟩ := eng_ok hex hdr N n
    exact ⟨evalF_ok hex h1 h2 (hdr _ _ h1 h2) N, evalY_ok h1 h2 (hdr _ _ h1 h2) N⟩

/-! ### The model's own functions -/
inductive XK where
  | count | indexByte | noEscape | quiet (n : Nat)
  deriving DecidableEq

def exK : XK → List D → Option D
  | .count, [.lit (.string s), .lit (.int .u8 c)] => some (.lit (.int .i64 (Lib.countByte s.data.toList c.toNat.toUInt8)))
  | .indexByte, [.lit (.string s), .lit (.int .u8 c)] => some (.lit (.int .i64 (Lib.indexByte s.data.toList c.toNat.toUInt8)))
  | .noEscape, [x] => some x
  | .quiet n, args => bif Nat.beq args.length n then some .un else none
  | _, _ => none

def XK.fn : XK → Array Value → Sem Value
  | .count => Extern.BytealgCount.count
  | .indexByte => Extern.BytealgIndexByte.indexByte
  | .noEscape => Extern.AbiNoEscape.same
  | .quiet _ => fun _ => pure undef

def exT (l : List (FuncId × XK)) : CF := fun g args h => match l.lookup g with
  | some k => (exK k args).map (·, h)
  | none => none

def ExtOk (P : Program) (g : FuncId) (k : XK) : Prop := match k with
  | .quiet n => enters P g = true ∧ ∀ vs w, vs.size = n → Quiet P g vs w
  | k => ∃ fn, P.funcs[g]? = some fn ∧ (fn.name == "runtime.NumGoroutine") = false ∧ fn.body.isNone = true ∧ (Extern.findNext fn).isNone = true ∧ Extern.find fn = some k.fn
theorem args1 {M : Mem} {x : D} {vs : Array Value} (h : argsOk M [x] vs) : ∃ v, vs = #[v] ∧ R M x v := by
  obtain ⟨h1, h2⟩ := h
  have h0 := h2 0 x rfl
  refine ⟨vs.getD 0 undef, ?_, h0⟩
  apply Array.ext
  · simpa using h1
  · intro i hi hj
    have : i = 0 := by simp at h1; omega
    subst this
    simp [Array.getD, hi]

theorem args2 {M : Mem} {x y : D} {vs : Array Value} (h : argsOk M [x, y] vs) : ∃ v u, vs = #[v, u] ∧ R M x v ∧ R M y u := by
  obtain ⟨h1, h2⟩ := h
  have h0 := h2 0 x rfl
  have h3 := h2 1 y rfl
  refine ⟨vs.getD 0 undef, vs.getD 1 undef, ?_, h0, h3⟩
  apply Array.ext
  · simpa using h1
  · intro i hi hj
    have : i = 0 ∨ i = 1 := by simp at h1; omega
    rcases this with rfl | rfl <;> simp [Array.getD, hi]

theorem exK_ok {P : Program} {M : Mem} {k : XK} {args : List D} {d : D} (h : exK k args = some d) {vs : Array Value} (ha : argsOk M args vs) (w : World) : ∃ v, (k.fn vs).run P w = .ok v w ∧ R M d v := by
  unfold exK at h
  split at h
  · cases h
    obtain ⟨v, u, rfl, h1, h2⟩ := args2 ha
    cases h1
    cases h2
    refine ⟨_, ?_, .lit _ trivial⟩
    simp only [XK.fn]
    exact Lib.run_countString _ _ w
  · cases h
    obtain ⟨v, u, rfl, h1, h2⟩ := args2 ha
    cases h1
    cases h2
    refine ⟨_, ?_, .lit _ trivial⟩
    simp only [XK.fn]
    exact Lib.run_indexByteString _ _ w
  · cases h
    obtain ⟨v, rfl, h1⟩ := args1 ha
    exact ⟨v, rfl, h1⟩
  · obtain ⟨_, h⟩ := bif_some h
    cases h
    exact ⟨undef, rfl, .un⟩
  · cases h

theorem exT_find {l : List (FuncId × XK)} {g : FuncId} {k : XK} (hk : l.lookup g = some k) : (g, k) ∈ l := by
  induction l with
  | nil => simp at hk
  | cons p r ih =>
    obtain ⟨a, b⟩ := p
    simp only [List.lookup] at hk
    split at hk
    · rename_i hb
      cases hk
      have : g = a := by simpa using hb
      subst this
      simp
    · exact List.mem_cons_of_mem _ (ih hk)

theorem ext_enters {P : Program} {g : FuncId} {k : XK} (h : ExtOk P g k) (hk : ∀ n, k ≠ .quiet n) : enters P g = false ∧ ∃ fn, P.funcs[g]? = some fn ∧ (fn.name == "runtime.NumGoroutine") = false ∧ fn.body.isNone = true ∧ (Extern.findNext fn).isNone = true ∧ Extern.find fn = some k.fn := by
  have h : ∃ fn, P.funcs[g]? = some fn ∧ (fn.name == "runtime.NumGoroutine") = false ∧ fn.body.isNone = true ∧ (Extern.findNext fn).isNone = true ∧ Extern.find fn = some k.fn := by
    cases k <;> first | exact h | exact absurd rfl (hk _)
  refine ⟨?_, h⟩
  obtain ⟨fn, e1, _, e3, _⟩ := h
  unfold enters
  rw [e1]
  cases hb : fn.body <;> simp [hb] at e3 ⊢

theorem exT_ok {P : Program} (l : List (FuncId × XK)) (hl : ∀ p ∈ l, ExtOk P p.1 p.2) : SX P (exT l) := by
  refine ⟨fun g args h d h' he hen M w vs hr ha => ?_, fun g args h d h' he hen M w vs hr ha => ?_⟩
  · unfold exT at he
    split at he
    case h_2 => cases he
    rename_i k hk
    obtain ⟨hek, rfl⟩ := map_pair he
    obtain ⟨v, h1, h2⟩ := exK_ok (P := P) hek ha w
    have hok := hl _ (exT_find hk)
    have hnq : ∀ n, k ≠ .quiet n := fun n e => by
      subst e
      have := hok.1
      simp only at this
      rw [hen] at this; cases this
    obtain ⟨_, fn, e1, e2, e3, e4, e5⟩ := ext_enters hok hnq
    refine ⟨v, w, M, ?_, hr, h2, Ext.refl M w⟩
    unfold callFunc
    simp only at e1 e5
    have e4' : Extern.findNext fn = none := by simpa using e4
    simp only [Sem.run_bind, run_program, Result.andThen_ok, e1]
    rw [if_neg (by rw [e2]; simp), if_pos e3]
    simp [e4', e5, h1]
  · unfold exT at he
    split at he
    case h_2 => cases he
    rename_i k hk
    obtain ⟨hek, rfl⟩ := map_pair he
    have hok := hl _ (exT_find hk)
    by_cases hq : ∃ n, k = .quiet n
    · obtain ⟨n, rfl⟩ := hq
      simp only [exK] at hek
      obtain ⟨hn, _⟩ := bif_some hek
      exact hok.2 vs w (by rw [ha.1]; exact Nat.eq_of_beq_eq_true hn)
    · have := (ext_enters hok (fun n e => hq ⟨n, e⟩)).1
      simp only at this
      rw [hen] at this; cases this
end Go.Ev

/-
  Whether two data are told alike.
-/
namespace Go.Ev

mutual
def dEqb : D → D → Bool
  | .lit a, .lit b => vEqb a b
  | .agg l, .agg m => lEqb l m
  | .pt l o, .pt l' o' => decide (l = l') && decide (o = o')
  | .sl l o n c, .sl l' o' n' c' => decide (l = l') && (decide (o = o') && (decide (n = n') && decide (c = c')))
  | .yl l, .yl l' => decide (l = l')
  | .mp l, .mp l' => decide (l = l')
  | .ifc t d, .ifc t' d' => decide (t = t') && dEqb d d'
  | .tup l, .tup m => lEqb l m
  | .fn (.func g) a b, .fn (.func g') a' b' => decide (g = g') && (lEqb a a' && lEqb b b')
  | .em, .em => true
  | .un, .un => true
  | .one, .one => true
  | .any, .any => true
  | _, _ => false
def lEqb : List D → List D → Bool
  | [], [] => true
  | a :: l, b :: m => dEqb a b && lEqb l m
  | _, _ => false
end

mutual
theorem dEqb_eq : ∀ (a b : D), dEqb a b = true → a = b
  | .lit a, b, h => by
    cases b <;> simp only [dEqb, Bool.false_eq_true] at h
    rw [vEqb_eq h]
  | .agg l, b, h => by
    cases b <;> simp only [dEqb, Bool.false_eq_true] at h
    rw [lEqb_eq _ _ h]
  | .pt l o, b, h => by
    cases b <;> simp only [dEqb, Bool.false_eq_true, Bool.and_eq_true, decide_eq_true_eq] at h
    rw [h.1, h.2]
  | .sl l o n c, b, h => by
    cases b <;> simp only [dEqb, Bool.false_eq_true, Bool.and_eq_true, decide_eq_true_eq] at h
    rw [h.1, h.2.1, h.2.2.1, h.2.2.2]
  | .yl l, b, h => by
    cases b <;> simp only [dEqb, Bool.false_eq_true, decide_eq_true_eq] at h
    rw [h]
  | .mp l, b, h => by
    cases b <;> simp only [dEqb, Bool.false_eq_true, decide_eq_true_eq] at h
    rw [h]
  | .ifc t d, b, h => by
    cases b <;> simp only [dEqb, Bool.false_eq_true, Bool.and_eq_true, decide_eq_true_eq] at h
    rw [h.1, dEqb_eq _ _ h.2]
  | .tup l, b, h => by
    cases b <;> simp only [dEqb, Bool.false_eq_true] at h
    rw [lEqb_eq _ _ h]
  | .fn f a c, b, h => by
    cases f with
    | func g =>
      cases b <;> (try simp only [dEqb, Bool.false_eq_true] at h)
      rename_i f' a' c'
      cases f' with
      | func g' =>
        simp only [dEqb, Bool.and_eq_true, decide_eq_true_eq] at h
        rw [h.1, lEqb_eq _ _ h.2.1, lEqb_eq _ _ h.2.2]
      | _ => simp [dEqb] at h
    | _ => simp [dEqb] at h
  | .em, b, h => by cases b <;> simp only [dEqb, Bool.false_eq_true] at h; rfl
  | .un, b, h => by cases b <;> simp only [dEqb, Bool.false_eq_true] at h; rfl
  | .one, b, h => by cases b <;> simp only [dEqb, Bool.false_eq_true] at h; rfl
  | .any, b, h => by cases b <;> simp only [dEqb, Bool.false_eq_true] at h; rfl
theorem lEqb_eq : ∀ (a b : List D), lEqb a b = true → a = b
  | [], b, h => by cases b <;> simp only [lEqb, Bool.false_eq_true] at h; rfl
  | a :: l, b, h => by
    cases b <;> simp only [lEqb, Bool.false_eq_true, Bool.and_eq_true] at h
    rw [dEqb_eq _ _ h.1, lEqb_eq _ _ h.2]
end
end Go.Ev

/-
  Regions that draw their order: what is reckoned.
  Operations are light (they leave memory as it is, and their slot is looked at only by operations behind them) or big (all others); the big ones stand one behind the other. At the stage j (j big ones are done)
  the canonical slots hold what every light operation tells that may be done by then; each light one that may still be open tells the same there.
-/
namespace Go.Ev
open Go.Aw (tiOf TI)

def isReader : Op → Bool
  | .move _ => true
  | .assign _ => true
  | .pick _ _ _ => true
  | .build _ _ => true
  | .load _ _ => true
  | .nilCheck _ => true
  | .binOp _ _ _ _ _ => true
  | .unOp _ _ _ => true
  | .convert _ _ _ => true
  | .makeInterface _ _ => true
  | .makeFunc _ _ _ => true
  | .slice _ _ _ _ _ => true
  | .fieldAddr _ _ _ => true
  | .field _ _ _ => true
  | .indexAddr _ _ _ => true
  | .index _ _ _ => true
  | .extract _ _ => true
  | .lookup _ _ _ _ => true
  | .call c => (match c.callee with
    | .builtin .len => true
    | .builtin .cap => true
    | .builtin .max => true
    | .builtin .min => true
    | .builtin .unsafeSliceData => true
    | _ => false)
  | _ => false

theorem reader_same {P : Program} {h h' : H} {f : Operand → D} {op : Op} {d : D} (hr : isReader op = true) (he : opE P h f op = some (d, h')) : h' = h := by
  cases op <;> simp only [isReader, Bool.false_eq_true] at hr <;> simp only [opE] at he
  case move => cases he; rfl
  case assign => cases he; rfl
  case pick =>
    split at he
    · cases he; rfl
    · cases he
  case build => exact (map_pair he).2
  case load =>
    split at he
    · exact (map_pair he).2
    · cases he
  case nilCheck => exact (map_pair he).2
  case binOp =>
    split at he
    · cases he; rfl
    · split at he
      · cases he; rfl
      · split at he
        · cases he; rfl
        · exact (map_pair he).2
  case lookup => exact (map_pair he).2
  case unOp => exact (map_pair he).2
  case convert =>
    split at he
    · cases he; rfl
    · exact (map_pair he).2
  case makeInterface =>
    split at he
    · rw [cond_eq_ite] at he
      split at he
      · cases he
      · cases he; rfl
    · cases he
  case makeFunc => cases he; rfl
  case slice => exact (map_pair he).2
  case fieldAddr => exact (map_pair he).2
  case field => exact (map_pair he).2
  case indexAddr => exact (map_pair he).2
  case index => exact (map_pair he).2
  case extract =>
    split at he
    · exact (map_pair he).2
    · cases he
  case call c =>
    split at he
    · rename_i b hb
      rw [hb] at hr
      unfold builtinE at he
      split at he
      · exact (map_pair he).2
      · exact (map_pair he).2
      · simp at hr
      · simp at hr
      · exact (map_pair he).2
      · exact (map_pair he).2
      · exact (map_pair he).2
      · simp at hr
      · simp at hr
      · cases he
    · cases he

/-- A new variable: its name is set aside ahead of the region; so it may be made whenever it likes. -/
def isAlloc (o : Oper) : Bool := match o.op, o.guard with
  | .alloc _, none => true
  | .makeMap _ none, none => true
  | .makeSlice _ _ _, none => true
  | _, _ => false

/-! ### What hangs on what -/
/-- Of each operation: the set of those that are done ahead of it. -/
def ancsGo : List Oper → List Nat → Option (List Nat)
  | [], acc => some acc
  | o :: r, acc => bif (o.after.toList.all fun e => !Region.binds .any e || Nat.blt e.on acc.length) then
      ancsGo r (acc ++ [o.after.toList.foldl (fun m e => bif Region.binds .any e then m ||| ((1 <<< e.on) ||| acc.getD e.on 0) else m) 0]) else none

/-- The slots that an operation looks at. -/
def looks (o : Oper) (gd : Nat → Option Tmp) : List Tmp :=
  (o.op.operands.toList.filterMap fun | .tmp t => some t | _ => none) ++ (match o.guard with | some (j, _) => (match gd j with | some t => [t] | none => []) | none => [])

structure Row where
  i : Nat
  o : Oper
  big : Bool
  anc : Nat

/-- The rows of a region: each operation, whether it is big, what is done ahead of it. -/
def rowsOf (ops : List Oper) (as : List Nat) (rd : List Tmp) : Nat → List Row
  | i => match ops, as with
    | o :: r, a :: s => { i := i, o := o, big := !isAlloc o && (!isReader o.op || (match o.op with | .assign _ => (match o.dst with | some t => rd.contains t | none => false) | _ => false)), anc := a } :: rowsOf r s rd (i + 1)
    | _, _ => []

def bit (i : Nat) : Nat := 1 <<< i

/-- All that is asked of a region once and for all. -/
def chainOk : Nat → List Row → Bool
  | _, [] => true
  | m, r :: l => bif r.big then Nat.beq (m &&& r.anc) m && chainOk (m ||| bit r.i) l else chainOk m l

def looksOk (gd : Nat → Option Tmp) (rows : List Row) : Bool :=
  rows.all fun r => (looks r.o gd).all fun t => rows.all fun k => k.big || (match k.o.dst with | some u => !Nat.beq t u || Nat.testBit r.anc k.i | none => true)

def dstsOk (rows : List Row) : Bool :=
  rows.all fun r => r.big || (match r.o.dst with
    | some t => rows.all fun k => Nat.beq k.i r.i || (match k.o.dst with | some u => !Nat.beq t u | none => true)
    | none => true)

def bigMask (rows : List Row) : Nat := rows.foldl (fun m r => bif r.big then m ||| bit r.i else m) 0

def allocV (P : Program) (tm : T D) (h : H) (l : Nat) : Op → Option D
  | .alloc t => (match tiOf P t with
    | some ti => (match h.hp.get l with
      | some (.cells t' none ds) => bif Nat.beq t t' && lEqb ds (ti.z.map zD) then some (.pt l 0) else none
      | _ => none)
    | none => none)
  | .makeMap _ none => (match h.hp.get l with
    | some (.map es) => bif es.isEmpty then some (.mp l) else none
    | _ => none)
  | .makeSlice t x y => (match tiOf P t with
    | some { k := .sl e, .. } => (match tiOf P e, valT tm x, valT tm y with
      | some ti, .lit (.int _ (.ofNat n)), .lit (.int _ (.ofNat c)) => (match h.hp.get l with
        | some (.cells t' none ds) => bif Nat.blt 0 ti.size && (Nat.beq n c && (Nat.ble (ti.bytes * c) 281474976710656 && (Nat.ble c 9223372036854775807 && (Nat.beq e t' && lEqb ds (zerosE ti n))))) then some (.sl l 0 n (some n)) else none
        | _ => none)
      | _, _, _ => none)
    | _ => none)
  | _ => none

/-- The names that are set aside. -/
def resv (P : Program) (b0 : Nat) (pre : T D) : List Row → T Blk → T Blk
  | [], hp => hp
  | r :: l, hp => resv P b0 pre l (bif isAlloc r.o then (match r.o.op with
    | .alloc t => (match tiOf P t with
      | some ti => hp.set (b0 + r.i) (.cells t none (ti.z.map zD))
      | none => hp)
    | .makeMap _ none => hp.set (b0 + r.i) (.map [])
    | .makeSlice t x _ => (match tiOf P t with
      | some { k := .sl e, .. } => (match tiOf P e, valT pre x with
        | some ti, .lit (.int _ (.ofNat n)) => bif Nat.ble n 65536 then hp.set (b0 + r.i) (.cells e none (zerosE ti n)) else hp
        | _, _ => hp)
      | _ => hp)
    | _ => hp) else hp)

def lightE (P : Program) (b0 : Nat) (gd : Nat → Option Tmp) (tm : T D) (h : H) (r : Row) : Option D :=
  match guardE gd tm r.o.guard with
  | some true => bif isAlloc r.o then allocV P tm h (b0 + r.i) r.o.op else (opE P h (valT tm) r.o.op).map (·.1)
  | some false => some .un
  | none => none

/-- What the slots hold ahead of all new things, as far as it can be told. -/
def preE (P : Program) (h : H) (gd : Nat → Option Tmp) : List Row → T D → T D
  | [], tm => tm
  | r :: l, tm => preE P h gd l (bif !r.big && (Nat.beq r.anc r.anc && !isAlloc r.o) then (match guardE gd tm r.o.guard with
    | some true => (match opE P h (valT tm) r.o.op with
      | some (d, _) => (match r.o.dst with | some t => tm.set t d | none => tm)
      | none => tm)
    | _ => tm) else tm)

/-- May it be done when just these big ones are? -/
def elig (all bm : Nat) (r : Row) : Bool := Nat.beq ((r.anc &&& all) ||| bm) bm

def putT (tm : T D) : Option Tmp → D → T D
  | none, _ => tm
  | some t, d => tm.set t d

def oldE (all : Nat) : Option Nat → Row → Bool
  | some o, r => elig all o r
  | none, _ => false

/-- What may be done now, and might not before. -/
def passE (P : Program) (b0 : Nat) (gd : Nat → Option Tmp) (all : Nat) (old : Option Nat) (bm : Nat) (h : H) : List Row → T D → Option (T D)
  | [], tm => some tm
  | r :: l, tm => bif !r.big && (elig all bm r && !oldE all old r) then (match lightE P b0 gd tm h r with
      | some d => passE P b0 gd all old bm h l (putT tm r.o.dst d)
      | none => none) else passE P b0 gd all old bm h l tm

/-- All that may still be open tell what the slots hold. -/
def holdE (P : Program) (b0 : Nat) (gd : Nat → Option Tmp) (all bm must : Nat) (tm : T D) (h : H) (rows : List Row) : Bool :=
  rows.all fun r => r.big || (!elig all bm r || (Nat.testBit must r.i || (match lightE P b0 gd tm h r with
    | some d => (match r.o.dst with
      | some t => (match tm.get t with | some e => dEqb d e | none => false)
      | none => true)
    | none => false)))

/-- One big operation. -/
def bigE (P : Program) (cf : CF) (ye : YE) (gd : Nat → Option Tmp) (tm : T D) (h : H) (b : Row) : Option (D × H) :=
  match guardE gd tm b.o.guard with
  | some true => evalOp P cf ye (valT tm) h b.o.op
  | some false => some (.un, h)
  | none => none

def storeK (ti : TI) (o : Nat) (x : D) : Blk → Option Blk
  | .cells ty op ds => bif okX x && (Nat.beq (cellsD x).length ti.size && Nat.ble (o + ti.size) ds.length) then some (.cells ty op (ds.take o ++ cellsD x ++ ds.drop (o + ti.size))) else none
  | _ => none

/-- What a store writes, and where. -/
def storeOf (P : Program) (tm : T D) (h : H) (o : Oper) : Option (Nat × Blk) :=
  match o.guard, o.dst, o.op with
  | none, none, .store t p v => (match tiOf P t, valT tm p with
    | some ti, .pt l off => (match h.hp.get l with
      | some k0 => (storeK ti off (valT tm v) k0).map fun k => (l, k)
      | none => none)
    | _, _ => none)
  | _, _, _ => none

/-- Two stores that stand last, in whatever order, into parts of memory that are not the same. -/
def tailE (P : Program) (b0 : Nat) (gd : Nat → Option Tmp) (rows : List Row) (all : Nat) (x y : Row) (bm must : Nat) (tm : T D) (h : H) : Option (T D × H) :=
  match storeOf P tm h x.o, storeOf P tm h y.o with
  | some (l1, k1), some (l2, k2) => bif !Nat.beq l1 l2 && (holdE P b0 gd all (bm ||| bit x.i) (must ||| x.anc) tm { h with hp := h.hp.set l1 k1 } rows && (holdE P b0 gd all (bm ||| bit y.i) (must ||| y.anc) tm { h with hp := h.hp.set l2 k2 } rows &&
      holdE P b0 gd all (bm ||| bit x.i ||| bit y.i) (must ||| x.anc ||| y.anc) tm { h with hp := (h.hp.set l1 k1).set l2 k2 } rows)) then some (tm, { h with hp := (h.hp.set l1 k1).set l2 k2 }) else none
  | _, _ => none

def stageE (P : Program) (cf : CF) (ye : YE) (b0 : Nat) (gd : Nat → Option Tmp) (rows : List Row) (all : Nat) : List Row → Nat → Nat → T D → H → Option (T D × H)
  | [], _, _, tm, h => some (tm, h)
  | b :: l, bm, must, tm, h => bif l.all (fun q => Nat.testBit q.anc b.i) then (match bigE P cf ye gd tm h b with
    | some (d, h') => (match passE P b0 gd all (some bm) (bm ||| bit b.i) h' rows (putT tm b.o.dst d) with
      | some tm' => bif holdE P b0 gd all (bm ||| bit b.i) (must ||| b.anc) tm' h' rows then stageE P cf ye b0 gd rows all l (bm ||| bit b.i) (must ||| b.anc) tm' h' else none
      | none => none)
    | none => none) else (match l with
    | [y] => tailE P b0 gd rows all b y bm must tm h
    | _ => none)

def drawE (P : Program) (cf : CF) (ye : YE) (ops : Array Oper) (s : St) : Option St :=
  let gd : Nat → Option Tmp := fun j => (ops[j]?).bind (·.dst)
  match ancsGo ops.toList [] with
  | some as =>
    let rows := rowsOf ops.toList as (ops.toList.flatMap fun o => looks o gd) 0
    let all := bigMask rows
    let b0 := s.h.nx
    let h0 : H := { hp := bif rows.any (fun r => isAlloc r.o) then resv P b0 (preE P s.h gd rows s.tm) rows s.h.hp else s.h.hp, nx := b0 + (bif rows.any (fun r => isAlloc r.o) then ops.size else 0) }
    bif (looksOk gd rows && (dstsOk rows && (ops.toList.all (fun o => s.room o.dst) && P.follows .mixedOrders))) then
      (match passE P b0 gd all none 0 h0 rows s.tm with
      | some tm => bif holdE P b0 gd all 0 0 tm h0 rows then (match stageE P cf ye b0 gd rows all (rows.filter (·.big)) 0 0 tm h0 with
          | some (tm', h') => some { s with tm := tm', h := h' }
          | none => none) else none
      | none => none) else none
  | none => none
end Go.Ev

/-
  Regions that draw their order: the proof.
-/
namespace Go.Ev
open Go.Aw (WF)

theorem testBit_bit (i a : Nat) : (bit i).testBit a = decide (i = a) := by
  unfold bit
  rw [Nat.one_shiftLeft, Nat.testBit_two_pow]

theorem foldl_anc (acc : List Nat) : ∀ (es : List Edge) (m a : Nat), (es.foldl (fun m e => bif Region.binds .any e then m ||| ((1 <<< e.on) ||| acc.getD e.on 0) else m) m).testBit a = true →
    m.testBit a = true ∨ ∃ e ∈ es, Region.binds .any e = true ∧ (e.on = a ∨ (acc.getD e.on 0).testBit a = true)
  | [], m, a, h => .inl h
  | e :: es, m, a, h => by
    simp only [List.foldl_cons] at h
    rcases foldl_anc acc es _ a h with h1 | ⟨e', h1, h2⟩
    · rw [cond_eq_ite] at h1
      split at h1
      · rename_i hb
        rw [Nat.testBit_or, Nat.testBit_or] at h1
        simp only [Bool.or_eq_true] at h1
        rcases h1 with h1 | h1 | h1
        · exact .inl h1
        · have := testBit_bit e.on a
          unfold bit at this
          rw [this] at h1
          exact .inr ⟨e, by simp, hb, .inl (by simpa using h1)⟩
        · exact .inr ⟨e, by simp, hb, .inr h1⟩
      · exact .inl h1
    · exact .inr ⟨e', List.mem_cons_of_mem _ h1, h2⟩

/-- What 'ancsGo' tells. -/
theorem ancsGo_ok : ∀ (l : List Oper) (acc as : List Nat), ancsGo l acc = some as →
    as.length = acc.length + l.length ∧ (∀ i, i < acc.length → as[i]? = acc[i]?) ∧
    ∀ k o, l[k]? = some o → ∃ m, as[acc.length + k]? = some m ∧ (∀ e ∈ o.after.toList, Region.binds .any e = true → e.on < acc.length + k) ∧
      ∀ a, m.testBit a = true → ∃ e ∈ o.after.toList, Region.binds .any e = true ∧ (e.on = a ∨ ∃ m', as[e.on]? = some m' ∧ m'.testBit a = true)
  | [], acc, as, h => by
    simp only [ancsGo, Option.some.injEq] at h
    subst h
    exact ⟨by simp, fun _ _ => rfl, by simp⟩
  | o :: r, acc, as, h => by
    simp only [ancsGo] at h
    obtain ⟨hc, h⟩ := bif_some h
    obtain ⟨h1, h2, h3⟩ := ancsGo_ok r _ as h
    simp only [List.length_append, List.length_cons, List.length_nil] at h1 h2 h3
    have hb : ∀ e ∈ o.after.toList, Region.binds .any e = true → e.on < acc.length := fun e he hbe => by
      have := List.all_eq_true.1 hc e he
      rw [hbe] at this
      simpa [Nat.blt_eq] using this
    refine ⟨by simp; omega, fun i hi => by rw [h2 i (by omega), List.getElem?_append_left hi], fun k o' hk => ?_⟩
    cases k with
    | zero =>
      simp only [List.getElem?_cons_zero, Option.some.injEq] at hk
      subst hk
      refine ⟨_, by rw [Nat.add_zero, h2 _ (by omega), List.getElem?_append_right (Nat.le_refl _), Nat.sub_self, List.getElem?_cons_zero], fun e he hbe => by have := hb e he hbe; omega, fun a ha => ?_⟩
      rcases foldl_anc acc _ _ a ha with q | ⟨e, he, hbe, q⟩
      · simp at q
      · refine ⟨e, he, hbe, q.imp id fun q => ?_⟩
        have hlt := hb e he hbe
        refine ⟨acc.getD e.on 0, ?_, q⟩
        rw [h2 _ (by omega), List.getElem?_append_left hlt]
        simp [List.getD_eq_getElem?_getD, List.getElem?_eq_getElem hlt]
    | succ k =>
      obtain ⟨m, e1, e2, e3⟩ := h3 k o' (by simpa using hk)
      exact ⟨m, by rw [show acc.length + (k + 1) = acc.length + 1 + k by omega]; exact e1, fun e he hbe => by have := e2 e he hbe; omega, e3⟩

/-- What 'rowsOf' tells. -/
theorem rowsOf_ok (rd : List Tmp) : ∀ (l : List Oper) (as : List Nat) (i : Nat), l.length = as.length →
    (∀ r ∈ rowsOf l as rd i, i ≤ r.i ∧ l[r.i - i]? = some r.o ∧ as[r.i - i]? = some r.anc ∧ (r.big = false → isReader r.o.op = true ∨ isAlloc r.o = true)) ∧
    (∀ k o, l[k]? = some o → ∃ r ∈ rowsOf l as rd i, r.i = i + k ∧ r.o = o)
  | [], [], i, _ => by simp [rowsOf]
  | [], _ :: _, i, h => by simp at h
  | _ :: _, [], i, h => by simp at h
  | o :: l, a :: as, i, h => by
    obtain ⟨h1, h2⟩ := rowsOf_ok rd l as (i + 1) (by simpa using h)
    refine ⟨fun r hr => ?_, fun k o' hk => ?_⟩
    · simp only [rowsOf, List.mem_cons] at hr
      rcases hr with rfl | hr
      · refine ⟨Nat.le_refl _, by simp, by simp, fun hb => ?_⟩
        cases ha : isAlloc o with
        | true => exact .inr rfl
        | false =>
          rw [ha] at hb
          simp only [Bool.not_false, Bool.true_and, Bool.or_eq_false_iff, Bool.not_eq_false'] at hb
          exact .inl hb.1
      · obtain ⟨g1, g2, g3, g4⟩ := h1 r hr
        refine ⟨by omega, ?_, ?_, g4⟩
        · rw [show r.i - i = (r.i - (i + 1)) + 1 by omega]; simpa using g2
        · rw [show r.i - i = (r.i - (i + 1)) + 1 by omega]; simpa using g3
    · cases k with
      | zero =>
        simp only [List.getElem?_cons_zero, Option.some.injEq] at hk
        subst hk
        exact ⟨_, by simp [rowsOf]; left; rfl, rfl, rfl⟩
      | succ k =>
        obtain ⟨r, g1, g2, g3⟩ := h2 k o' (by simpa using hk)
        exact ⟨r, by simp only [rowsOf, List.mem_cons]; exact .inr g1, by omega, g3⟩

theorem bigMask_ok : ∀ (l : List Row) (m a : Nat), (l.foldl (fun m r => bif r.big then m ||| bit r.i else m) m).testBit a = true ↔ m.testBit a = true ∨ ∃ r ∈ l, r.big = true ∧ r.i = a
  | [], m, a => by simp
  | r :: l, m, a => by
    simp only [List.foldl_cons, bigMask_ok l, List.mem_cons]
    cases hb : r.big with
    | true =>
      simp only [cond_true, Nat.testBit_or, testBit_bit, Bool.or_eq_true, decide_eq_true_eq]
      constructor
      · rintro ((h | h) | ⟨q, h1, h2, h3⟩)
        · exact .inl h
        · exact .inr ⟨r, .inl rfl, hb, h⟩
        · exact .inr ⟨q, .inr h1, h2, h3⟩
      · rintro (h | ⟨q, (rfl | h1), h2, h3⟩)
        · exact .inl (.inl h)
        · exact .inl (.inr h3)
        · exact .inr ⟨q, h1, h2, h3⟩
    | false =>
      simp only [cond_false]
      constructor
      · rintro (h | ⟨q, h1, h2, h3⟩)
        · exact .inl h
        · exact .inr ⟨q, .inr h1, h2, h3⟩
      · rintro (h | ⟨q, (rfl | h1), h2, h3⟩)
        · exact .inl h
        · rw [hb] at h2; cases h2
        · exact .inr ⟨q, h1, h2, h3⟩

theorem rowsOf_uniq (rd : List Tmp) : ∀ (l : List Oper) (as : List Nat) (i : Nat), ∀ r ∈ rowsOf l as rd i, ∀ k ∈ rowsOf l as rd i, r.i = k.i → r = k
  | [], _, i, r, hr, _, _, _ => by simp [rowsOf] at hr
  | _ :: _, [], i, r, hr, _, _, _ => by simp [rowsOf] at hr
  | o :: l, a :: as, i, r, hr, k, hk, h => by
    have low : ∀ (l : List Oper) (as : List Nat) (j : Nat), ∀ q ∈ rowsOf l as rd j, j ≤ q.i := by
      intro l
      induction l with
      | nil => intro as j q hq; simp [rowsOf] at hq
      | cons o l ih =>
        intro as j q hq
        cases as with
        | nil => simp [rowsOf] at hq
        | cons a as =>
          simp only [rowsOf, List.mem_cons] at hq
          rcases hq with rfl | hq
          · exact Nat.le_refl _
          · have := ih as (j + 1) q hq; omega
    simp only [rowsOf, List.mem_cons] at hr hk
    rcases hr with rfl | hr <;> rcases hk with rfl | hk
    · rfl
    · have := low _ _ _ _ hk; simp at h; omega
    · have := low _ _ _ _ hr; simp at h; omega
    · exact rowsOf_uniq rd l as (i + 1) r hr k hk h

theorem rowsOf_low (rd : List Tmp) : ∀ (l : List Oper) (as : List Nat) (j : Nat), ∀ q ∈ rowsOf l as rd j, j ≤ q.i
  | [], _, j, q, hq => by simp [rowsOf] at hq
  | _ :: _, [], j, q, hq => by simp [rowsOf] at hq
  | o :: l, a :: as, j, q, hq => by
    simp only [rowsOf, List.mem_cons] at hq
    rcases hq with rfl | hq
    · exact Nat.le_refl _
    · have := rowsOf_low rd l as (j + 1) q hq; omega

theorem rowsOf_pair (rd : List Tmp) : ∀ (l : List Oper) (as : List Nat) (j : Nat), (rowsOf l as rd j).Pairwise (fun a b => a.i ≠ b.i)
  | [], _, j => by simp [rowsOf]
  | _ :: _, [], j => by simp [rowsOf]
  | o :: l, a :: as, j => by
    simp only [rowsOf]
    refine List.pairwise_cons.2 ⟨fun q hq => ?_, rowsOf_pair rd l as (j + 1)⟩
    have := rowsOf_low rd l as (j + 1) q hq
    show j ≠ q.i
    omega

/-- What is known of a region, once and for all. -/
structure Reg (ops : Array Oper) (rows : List Row) (all : Nat) : Prop where
  row : ∀ r ∈ rows, ops[r.i]? = some r.o
  has : ∀ i o, ops[i]? = some o → ∃ r ∈ rows, r.i = i
  uniq : ∀ r ∈ rows, ∀ k ∈ rows, r.i = k.i → r = k
  anc : ∀ r ∈ rows, ∀ a, r.anc.testBit a = true → ∃ e ∈ r.o.after.toList, Region.binds .any e = true ∧ (e.on = a ∨ ∃ k ∈ rows, k.i = e.on ∧ k.anc.testBit a = true)
  lt : ∀ r ∈ rows, ∀ e ∈ r.o.after.toList, Region.binds .any e = true → e.on < r.i
  read : ∀ r ∈ rows, r.big = false → isReader r.o.op = true ∨ isAlloc r.o = true
  all : ∀ a, all.testBit a = true ↔ ∃ r ∈ rows, r.big = true ∧ r.i = a
  looks : ∀ r ∈ rows, ∀ t ∈ looks r.o (fun j => (ops[j]?).bind (·.dst)), ∀ k ∈ rows, k.big = false → k.o.dst = some t → r.anc.testBit k.i = true
  dsts : ∀ r ∈ rows, r.big = false → ∀ t, r.o.dst = some t → ∀ k ∈ rows, k.o.dst = some t → k.i = r.i

theorem reg_ok {ops : Array Oper} {as : List Nat} {rd : List Tmp} (ha : ancsGo ops.toList [] = some as) 
    (hl : looksOk (fun j => (ops[j]?).bind (·.dst)) (rowsOf ops.toList as rd 0) = true) (hd : dstsOk (rowsOf ops.toList as rd 0) = true) : Reg ops (rowsOf ops.toList as rd 0) (bigMask (rowsOf ops.toList as rd 0)) := by
  obtain ⟨a1, _, a3⟩ := ancsGo_ok _ _ _ ha
  simp only [List.length_nil, Nat.zero_add] at a1 a3
  obtain ⟨r1, r2⟩ := rowsOf_ok rd ops.toList as 0 a1.symm
  simp only [Nat.sub_zero, Nat.zero_add] at r1 r2
  have hrow : ∀ r ∈ rowsOf ops.toList as rd 0, ops[r.i]? = some r.o := fun r hr => by have := (r1 r hr).2.1; simpa using this
  refine ⟨hrow, fun i o ho => ?_, rowsOf_uniq rd _ _ _, fun r hr a hb => ?_, fun r hr e he hbe => ?_, fun r hr => (r1 r hr).2.2.2, fun a => ?_, fun r hr t ht k hk hkb hkd => ?_, fun r hr hrb t ht k hk hkt => ?_⟩
  · obtain ⟨r, g1, g2, _⟩ := r2 i o (by simpa using ho)
    exact ⟨r, g1, g2⟩
  · obtain ⟨m, e1, _, e3⟩ := a3 r.i r.o (r1 r hr).2.1
    rw [(r1 r hr).2.2.1] at e1
    cases e1
    obtain ⟨e, h1, h2, h3⟩ := e3 a hb
    refine ⟨e, h1, h2, h3.imp id fun ⟨m', q1, q2⟩ => ?_⟩
    have hlt : e.on < ops.toList.length := by rw [← a1]; exact (List.getElem?_eq_some_iff.1 q1).1
    obtain ⟨k, k1, k2, _⟩ := r2 e.on _ (List.getElem?_eq_getElem hlt)
    refine ⟨k, k1, k2, ?_⟩
    have := (r1 k k1).2.2.1
    rw [k2, q1] at this
    cases this
    exact q2
  · obtain ⟨m, _, e2, _⟩ := a3 r.i r.o (r1 r hr).2.1
    exact e2 e he hbe
  · unfold bigMask
    rw [bigMask_ok]
    simp
  · have := List.all_eq_true.1 (List.all_eq_true.1 (List.all_eq_true.1 hl r hr) t ht) k hk
    rw [hkb, hkd] at this
    simpa [Nat.beq_eq_true_eq] using this
  · have := List.all_eq_true.1 hd r hr
    rw [hrb, ht] at this
    have := List.all_eq_true.1 this k hk
    rw [hkt] at this
    simpa using this
end Go.Ev

/-
  Regions that draw their order: any order does.
-/
namespace Go.Ev
open Go.Aw (WF tiOf tiOf_spec)

def okT (rows : List Row) (listed : Array Bool) (t : Tmp) : Prop := ∀ r ∈ rows, r.big = false → r.o.dst = some t → listed.getD r.i false = true

theorem put_same {a : Act} {t : Tmp} {v : Value} (h : t < a.tmps.size) : (a.put (some t) v).tmps.getD t undef = v := by
  simp [Act.put, Array.getD, h]
theorem put_other {a : Act} {dst : Option Tmp} {t : Tmp} {v : Value} (h : dst ≠ some t) : (a.put dst v).tmps.getD t undef = a.tmps.getD t undef := by
  cases dst with
  | none => rfl
  | some u =>
    have : u ≠ t := fun e => h (by rw [e])
    simp [Act.put, Array.getD_eq_getD_getElem?, Array.getElem?_setIfInBounds_ne this]
theorem put_size {a : Act} {dst : Option Tmp} {v : Value} : (a.put dst v).tmps.size = a.tmps.size := by cases dst <;> simp [Act.put]
theorem put_defers {a : Act} {dst : Option Tmp} {v : Value} : (a.put dst v).defers = a.defers := by cases dst <;> rfl

theorem constD_R {M : Mem} (v : Value) : R M (constD v) v := by
  unfold constD
  split
  · rename_i cs
    cases hc : cs.toList.all Aw.litB with
    | true =>
      have hl : ∀ c, c ∈ cs.toList → Aw.litOk c := fun c hm => Aw.litB_ok (List.all_eq_true.1 hc c hm)
      refine .agg _ _ (by simp) (fun i d hi => ?_) (fun i d hi => ?_)
      · simp only [List.getElem?_map, Array.getElem?_toList, Option.map_eq_some_iff] at hi
        obtain ⟨c, hc1, rfl⟩ := hi
        have := hl c (by rw [Array.mem_toList_iff]; exact Array.mem_of_getElem? hc1)
        rw [show cs.getD i undef = c by simp [Array.getD_eq_getD_getElem?, hc1]]
        exact lit_one this
      · simp only [List.getElem?_map, Array.getElem?_toList, Option.map_eq_some_iff] at hi
        obtain ⟨c, hc1, rfl⟩ := hi
        have := hl c (by rw [Array.mem_toList_iff]; exact Array.mem_of_getElem? hc1)
        rw [show cs.getD i undef = c by simp [Array.getD_eq_getD_getElem?, hc1]]
        exact .lit _ this
    | false => exact .any _
  · cases hc : Aw.litB v with
    | true => exact .lit _ (Aw.litB_ok hc)
    | false => exact .any _

open Classical in
/-- What is known of the operands, where not all slots are known. -/
noncomputable def partF (tm : T D) (ok : Tmp → Prop) (x : Operand) : D := if ∀ t, x = .tmp t → ok t then valT tm x else .any

theorem partF_R {M : Mem} {tm : T D} {ok : Tmp → Prop} {a : Act} (hv : ∀ t d, ok t → tm.get t = some d → R M d (a.tmps.getD t undef)) (x : Operand) : R M (partF tm ok x) (a.eval x) := by
  unfold partF
  split
  · rename_i h
    cases x with
    | tmp t =>
      simp only [valT]
      cases hl : tm.get t with
      | none => exact .any _
      | some d => exact hv t d (h t rfl) hl
    | const v =>
      exact constD_R v
    | func f => exact .fn _ _ _ _ _ rfl rfl (fun i d hi => by simp at hi) (fun i d hi => by simp at hi)
    | global g => exact .any _
  · exact .any _

theorem partF_eq {tm : T D} {ok : Tmp → Prop} {x : Operand} (h : ∀ t, x = .tmp t → ok t) : partF tm ok x = valT tm x := by
  unfold partF
  rw [if_pos h]

theorem evalOp_reader {P : Program} {cf : CF} {ye : YE} {f : Operand → D} {h : H} {op : Op} (hr : isReader op = true) : evalOp P cf ye f h op = opE P h f op := by
  unfold evalOp
  split
  · rename_i c
    split
    · rename_i g hc
      simp only [isReader, hc, Bool.false_eq_true] at hr
    · rfl
  · rfl

theorem pass_get {P : Program} {b0 : Nat} {gd : Nat → Option Tmp} {all : Nat} {old : Option Nat} {bm : Nat} {h : H} {t : Nat} : ∀ (l : List Row) (tm tm' : T D), passE P b0 gd all old bm h l tm = some tm' →
    (∀ r ∈ l, r.big = false → elig all bm r = true → oldE all old r = false → r.o.dst ≠ some t) → tm'.get t = tm.get t
  | [], tm, tm', he, _ => by simp only [passE, Option.some.injEq] at he; rw [he]
  | r :: l, tm, tm', he, hn => by
    simp only [passE] at he
    rw [cond_eq_ite] at he
    split at he
    · rename_i hc
      simp only [Bool.and_eq_true, Bool.not_eq_true'] at hc
      split at he
      case h_2 => cases he
      rename_i d hd
      rw [pass_get l _ _ he fun q hq => hn q (List.mem_cons_of_mem _ hq)]
      have := hn r (by simp) hc.1 hc.2.1 hc.2.2
      cases hdst : r.o.dst with
      | none => rfl
      | some u =>
        simp only [putT, T.get_set]
        rw [if_neg (fun e => this (by rw [hdst, e]))]
    · exact pass_get l _ _ he fun q hq => hn q (List.mem_cons_of_mem _ hq)

theorem ready_all {ops : Array Oper} {rows : List Row} {all : Nat} (hg : Reg ops rows all) {listed : Array Bool} (hs : listed.size = ops.size) (h : Region.ready .any ops listed = []) : ∀ i, i < ops.size → listed.getD i true = true := by
  intro i
  induction i using Nat.strongRecOn with
  | _ i ih =>
  intro hi
  cases hl : listed.getD i true with
  | true => rfl
  | false =>
    exfalso
    have : i ∈ Region.ready .any ops listed := mem_ready.2 ⟨hl, ops[i], Array.getElem?_eq_getElem hi, fun e he hb => by
      obtain ⟨r, h1, h2⟩ := hg.has i _ (Array.getElem?_eq_getElem hi)
      have ho := hg.row r h1
      rw [h2, Array.getElem?_eq_getElem hi] at ho
      have hlt := hg.lt r h1 e (by rw [← Option.some.inj ho]; exact Array.mem_toList_iff.2 he) hb
      rw [h2] at hlt
      have := ih e.on hlt (by omega)
      have hlt2 : e.on < listed.size := by omega
      simpa [Array.getD, hlt2] using this⟩
    rw [h] at this
    cases this

/-- What holds at a stage, whatever of the light ones is done. -/
structure Stage (P : Program) (b0 : Nat) (ops : Array Oper) (rows : List Row) (all nn : Nat) (df : List DF) (bm mu : Nat) (tm : T D) (h : H) (listed : Array Bool) (M : Mem) (w : World) (a : Act) : Prop where
  size : listed.size = ops.size
  closed : ∀ r ∈ rows, listed.getD r.i false = true → ∀ x, r.anc.testBit x = true → listed.getD x false = true
  big : ∀ r ∈ rows, r.big = true → (listed.getD r.i false = true ↔ bm.testBit r.i = true)
  must : ∀ r ∈ rows, mu.testBit r.i = true → listed.getD r.i false = true
  hold : holdE P b0 (fun j => (ops[j]?).bind (·.dst)) all bm mu tm h rows = true
  mem : RH M h w
  sz : a.tmps.size = nn
  vals : ∀ t d, okT rows listed t → tm.get t = some d → R M d (a.tmps.getD t undef)
  df : DfsOk M df a.defers
  res : ∀ r ∈ rows, isAlloc r.o = true → listed.getD r.i false = false → M.μ (b0 + r.i) = .res ∧ b0 + r.i < M.nx

theorem getD_set {listed : Array Bool} {i j : Nat} (hi : i < listed.size) : (listed.setIfInBounds i true).getD j false = if i = j then true else listed.getD j false := by
  by_cases h : i = j
  · subst h; simp [Array.getD, hi]
  · rw [if_neg h]
    simp [Array.getD_eq_getD_getElem?, Array.getElem?_setIfInBounds_ne h]

theorem countP_set (n : Nat) {listed : Array Bool} {i : Nat} (hn : i < n) (hi : i < listed.size) (hu : listed.getD i true = false) :
    (List.range n).countP (fun k => !(listed.setIfInBounds i true).getD k true) + 1 ≤ (List.range n).countP (fun k => !listed.getD k true) := by
  have key : ∀ l : List Nat, l.Nodup → i ∈ l → l.countP (fun k => !(listed.setIfInBounds i true).getD k true) + 1 = l.countP (fun k => !listed.getD k true) := by
    intro l
    induction l with
    | nil => intro _ h; simp at h
    | cons x l ih =>
      intro hnd hm
      obtain ⟨n1, n2⟩ := List.nodup_cons.1 hnd
      have other : ∀ k, k ≠ i → (listed.setIfInBounds i true).getD k true = listed.getD k true := fun k hk => by
        simp [Array.getD_eq_getD_getElem?, Array.getElem?_setIfInBounds_ne (Ne.symm hk)]
      have self : (listed.setIfInBounds i true).getD i true = true := by simp [Array.getD, hi]
      rcases List.mem_cons.1 hm with rfl | hm
      · rw [List.countP_cons, List.countP_cons, self, hu]
        have : l.countP (fun k => !(listed.setIfInBounds i true).getD k true) = l.countP (fun k => !listed.getD k true) :=
          List.countP_congr fun k hk => by rw [other k (fun e => n1 (e ▸ hk))]
        rw [this]
        simp
      · have hx : x ≠ i := fun e => n1 (e ▸ hm)
        rw [List.countP_cons, List.countP_cons, other x hx, ← ih n2 hm]
        omega
  exact Nat.le_of_eq (key _ List.nodup_range (List.mem_range.2 hn))

theorem RH.same {M : Mem} {h h' : H} {w : World} (hr : RH M h w) (hg : ∀ l, h'.hp.get l = h.hp.get l) (hn : h'.nx = h.nx) : RH M h' w :=
  ⟨hr.inv, fun l k e => hr.hp l k ((hg l).symm.trans e), hn.trans hr.nx⟩

/-- The states that may come, whatever of the big ones is done. -/
inductive Net (P : Program) (cf : CF) (ye : YE) (b0 : Nat) (gd : Nat → Option Tmp) (rows : List Row) (all : Nat) (tm' : T D) (h' : H) : Nat → Nat → T D → H → Prop
  | mk (bm mu : Nat) (tm : T D) (h : H) (sd : Row → D) (s1 s2 : Row → H) (st : Row → T D)
    (fin : (∀ b ∈ rows, b.big = true → bm.testBit b.i = true) → tm = tm' ∧ h'.nx = h.nx ∧ ∀ l, h'.hp.get l = h.hp.get l)
    (ok : ∀ b ∈ rows, b.big = true → bm.testBit b.i = false → (∀ k ∈ rows, k.big = true → b.anc.testBit k.i = true → bm.testBit k.i = true) →
      bigE P cf ye gd tm h b = some (sd b, s1 b) ∧ (∀ t, (∀ k ∈ rows, k.big = false → elig all (bm ||| bit b.i) k = true → oldE all (some bm) k = false → k.o.dst ≠ some t) → (st b).get t = (putT tm b.o.dst (sd b)).get t) ∧
      ((s2 b).nx = (s1 b).nx ∧ ∀ l, (s2 b).hp.get l = (s1 b).hp.get l) ∧ holdE P b0 gd all (bm ||| bit b.i) (mu ||| b.anc) (st b) (s2 b) rows = true)
    (next : ∀ b ∈ rows, b.big = true → bm.testBit b.i = false → (∀ k ∈ rows, k.big = true → b.anc.testBit k.i = true → bm.testBit k.i = true) → Net P cf ye b0 gd rows all tm' h' (bm ||| bit b.i) (mu ||| b.anc) (st b) (s2 b)) :
    Net P cf ye b0 gd rows all tm' h' bm mu tm h

theorem storeOf_ev {P : Program} {cf : CF} {ye : YE} {gd : Nat → Option Tmp} {tm : T D} {h : H} {b : Row} {l : Nat} {k : Blk} (hs : storeOf P tm h b.o = some (l, k)) (h2 : H) (hg : h2.hp.get l = h.hp.get l) :
    bigE P cf ye gd tm h2 b = some (.un, { h2 with hp := h2.hp.set l k }) ∧ b.o.dst = none := by
  unfold storeOf at hs
  split at hs
  case h_2 => cases hs
  rename_i t p v hgu hdst hop
  split at hs
  case h_2 => cases hs
  rename_i ti l' off hti hp
  split at hs
  case h_2 => cases hs
  rename_i k0 hk0
  simp only [Option.map_eq_some_iff, Prod.mk.injEq] at hs
  obtain ⟨k', hk', rfl, rfl⟩ := hs
  refine ⟨?_, hdst⟩
  unfold bigE
  rw [hgu]
  simp only [guardE]
  have : evalOp P cf ye (valT tm) h2 b.o.op = opE P h2 (valT tm) b.o.op := by rw [hop]; rfl
  rw [this, hop]
  simp only [opE, hti, hp, storeE, hg, hk0]
  unfold storeK at hk'
  split at hk'
  case h_2 => cases hk'
  obtain ⟨hc, hk'⟩ := bif_some hk'
  cases hk'
  simp only [hc, cond_true, Option.map_some]

theorem stage_net {P : Program} {cf : CF} {ye : YE} {b0 : Nat} {gd : Nat → Option Tmp} {rows : List Row} {all : Nat} {tm' : T D} {h' : H} (huniq : ∀ r ∈ rows, ∀ k ∈ rows, r.i = k.i → r = k) :
    ∀ (l : List Row) (bm must : Nat) (tm : T D) (h : H), stageE P cf ye b0 gd rows all l bm must tm h = some (tm', h') → (∀ r ∈ rows, r.big = true → (r ∈ l ↔ bm.testBit r.i = false)) → (∀ r ∈ l, r ∈ rows ∧ r.big = true) → l.Pairwise (fun a b => a.i ≠ b.i) →
      Net P cf ye b0 gd rows all tm' h' bm must tm h
  | [], bm, must, tm, h, hs, hl, _, _ => by
    simp only [stageE, Option.some.injEq, Prod.mk.injEq] at hs
    obtain ⟨rfl, rfl⟩ := hs
    have no : ∀ b ∈ rows, b.big = true → bm.testBit b.i = false → False := fun b hb hbb hbi => by simpa using (hl b hb hbb).2 hbi
    exact .mk bm must tm h (fun _ => .un) (fun _ => h) (fun _ => h) (fun _ => tm) (fun _ => ⟨rfl, rfl, fun _ => rfl⟩) (fun b hb hbb hbi _ => (no b hb hbb hbi).elim) (fun b hb hbb hbi _ => (no b hb hbb hbi).elim)
  | b :: l, bm, must, tm, h, hs, hl, hm, hp => by
    obtain ⟨hp1, hp2⟩ := List.pairwise_cons.1 hp
    obtain ⟨hbr, hbb⟩ := hm b (by simp)
    have hbi : bm.testBit b.i = false := (hl b hbr hbb).1 (by simp)
    have notall : ¬ (∀ b ∈ rows, b.big = true → bm.testBit b.i = true) := fun q => by have := q b hbr hbb; rw [hbi] at this; cases this
    have orbit : ∀ (m : Nat) (r q : Row), (m ||| bit r.i).testBit q.i = (m.testBit q.i || decide (r.i = q.i)) := fun m r q => by rw [Nat.testBit_or, testBit_bit]
    simp only [stageE] at hs
    rw [cond_eq_ite] at hs
    split at hs
    · rename_i hch
      split at hs
      case h_2 => cases hs
      rename_i d h1 hbig
      split at hs
      case h_2 => cases hs
      rename_i tm2 hps
      obtain ⟨hhold, hs⟩ := bif_some hs
      have only : ∀ r ∈ rows, r.big = true → bm.testBit r.i = false → (∀ k ∈ rows, k.big = true → r.anc.testBit k.i = true → bm.testBit k.i = true) → r = b := fun r hr hrb hri hra => by
        rcases List.mem_cons.1 ((hl r hr hrb).2 hri) with q | q
        · exact q
        · have := List.all_eq_true.1 hch r q
          have := hra b hbr hbb this
          rw [hbi] at this; cases this
      refine .mk bm must tm h (fun _ => d) (fun _ => h1) (fun _ => h1) (fun _ => tm2) (fun q => absurd q notall) (fun r hr hrb hri hra => ?_) (fun r hr hrb hri hra => ?_)
      · obtain rfl := only r hr hrb hri hra
        exact ⟨hbig, fun t ht => pass_get _ _ _ hps ht, ⟨rfl, fun _ => rfl⟩, hhold⟩
      · obtain rfl := only r hr hrb hri hra
        refine stage_net huniq l _ _ _ _ hs (fun q hq hqb => ?_) (fun q hq => hm q (List.mem_cons_of_mem _ hq)) hp2
        rw [orbit]
        by_cases hqr : r.i = q.i
        · have := huniq r hr q hq hqr
          subst this
          simp only [decide_true, Bool.or_true]
          exact ⟨fun q2 => absurd rfl (hp1 r q2), fun q2 => by cases q2⟩
        · simp only [hqr, decide_false, Bool.or_false]
          rw [← hl q hq hqb, List.mem_cons]
          exact ⟨fun q2 => .inr q2, fun q2 => q2.resolve_left (fun e => hqr (by rw [e]))⟩
    · split at hs
      case h_2 => cases hs
      rename_i y _
      obtain ⟨hyr, hyb⟩ := hm y (by simp)
      have hne : b.i ≠ y.i := hp1 y (by simp)
      unfold tailE at hs
      split at hs
      case h_2 => cases hs
      rename_i l1 k1 l2 k2 hs1 hs2
      obtain ⟨hc, hs⟩ := bif_some hs
      simp only [Option.some.injEq, Prod.mk.injEq] at hs
      obtain ⟨rfl, rfl⟩ := hs
      simp only [Bool.and_eq_true, Bool.not_eq_true'] at hc
      obtain ⟨hln, hhx, hhy, hhz⟩ := hc
      have hln : l1 ≠ l2 := fun e => by subst e; simp at hln
      have hyi : bm.testBit y.i = false := (hl y hyr hyb).1 (by simp)
      have two : ∀ r ∈ rows, r.big = true → bm.testBit r.i = false → r = b ∨ r = y := fun r hr hrb hri => by simpa using (hl r hr hrb).2 hri
      have last : ∀ mu, Net P cf ye b0 gd rows all tm { h with hp := (h.hp.set l1 k1).set l2 k2 } (bm ||| bit b.i ||| bit y.i) mu tm { h with hp := (h.hp.set l1 k1).set l2 k2 } := fun mu => by
        have no : ∀ r ∈ rows, r.big = true → (bm ||| bit b.i ||| bit y.i).testBit r.i = false → False := fun r hr hrb hri => by
          rw [orbit, orbit] at hri
          simp only [Bool.or_eq_false_iff, decide_eq_false_iff_not] at hri
          rcases two r hr hrb hri.1.1 with q | q
          · exact hri.1.2 (by rw [q])
          · exact hri.2 (by rw [q])
        exact .mk _ _ tm _ (fun _ => .un) (fun _ => h) (fun _ => h) (fun _ => tm) (fun _ => ⟨rfl, rfl, fun _ => rfl⟩) (fun b hb hbb hbi _ => (no b hb hbb hbi).elim) (fun b hb hbb hbi _ => (no b hb hbb hbi).elim)
      have comm : ∀ m a c : Nat, m ||| a ||| c = m ||| c ||| a := fun m a c => by rw [Nat.or_assoc, Nat.or_comm a c, ← Nat.or_assoc]
      have netx : Net P cf ye b0 gd rows all tm { h with hp := (h.hp.set l1 k1).set l2 k2 } (bm ||| bit b.i) (must ||| b.anc) tm { h with hp := h.hp.set l1 k1 } := by
        have only : ∀ r ∈ rows, r.big = true → (bm ||| bit b.i).testBit r.i = false → r = y := fun r hr hrb hri => by
          rw [orbit] at hri
          simp only [Bool.or_eq_false_iff, decide_eq_false_iff_not] at hri
          exact (two r hr hrb hri.1).resolve_left (fun q => hri.2 (by rw [q]))
        have hev := storeOf_ev (cf := cf) (ye := ye) (gd := gd) hs2 { h with hp := h.hp.set l1 k1 } (by rw [T.get_set, if_neg hln])
        refine .mk _ _ tm _ (fun _ => .un) (fun _ => { h with hp := (h.hp.set l1 k1).set l2 k2 }) (fun _ => { h with hp := (h.hp.set l1 k1).set l2 k2 }) (fun _ => tm) (fun q => ?_) (fun r hr hrb hri _ => ?_) (fun r hr hrb hri _ => ?_)
        · have := q y hyr hyb
          rw [orbit, hyi] at this
          simp [hne] at this
        · obtain rfl := only r hr hrb hri
          exact ⟨hev.1, fun t _ => by rw [hev.2]; rfl, ⟨rfl, fun _ => rfl⟩, hhz⟩
        · obtain rfl := only r hr hrb hri
          exact last _
      have nety : Net P cf ye b0 gd rows all tm { h with hp := (h.hp.set l1 k1).set l2 k2 } (bm ||| bit y.i) (must ||| y.anc) tm { h with hp := h.hp.set l2 k2 } := by
        have only : ∀ r ∈ rows, r.big = true → (bm ||| bit y.i).testBit r.i = false → r = b := fun r hr hrb hri => by
          rw [orbit] at hri
          simp only [Bool.or_eq_false_iff, decide_eq_false_iff_not] at hri
          exact (two r hr hrb hri.1).resolve_right (fun q => hri.2 (by rw [q]))
        have hev := storeOf_ev (cf := cf) (ye := ye) (gd := gd) hs1 { h with hp := h.hp.set l2 k2 } (by rw [T.get_set, if_neg (fun q => hln q.symm)])
        refine .mk _ _ tm _ (fun _ => .un) (fun _ => { h with hp := (h.hp.set l2 k2).set l1 k1 }) (fun _ => { h with hp := (h.hp.set l1 k1).set l2 k2 }) (fun _ => tm) (fun q => ?_) (fun r hr hrb hri _ => ?_) (fun r hr hrb hri _ => ?_)
        · have := q b hbr hbb
          rw [orbit, hbi] at this
          simp [Ne.symm hne] at this
        · obtain rfl := only r hr hrb hri
          refine ⟨hev.1, fun t _ => by rw [hev.2]; rfl, ⟨rfl, fun m => ?_⟩, by rw [comm bm, comm must]; exact hhz⟩
          simp only [T.get_set]
          by_cases e1 : l1 = m
          · subst e1; rw [if_neg (fun q => hln q.symm), if_pos rfl, if_pos rfl]
          · by_cases e2 : l2 = m
            · rw [if_pos e2, if_neg e1, if_pos e2]
            · rw [if_neg e2, if_neg e1, if_neg e1, if_neg e2]
        · obtain rfl := only r hr hrb hri
          rw [comm bm, comm must]
          exact last _
      have hevb := storeOf_ev (cf := cf) (ye := ye) (gd := gd) hs1 h rfl
      have hevy := storeOf_ev (cf := cf) (ye := ye) (gd := gd) hs2 h rfl
      refine .mk bm must tm h (fun _ => .un) (fun r => if r.i = b.i then { h with hp := h.hp.set l1 k1 } else { h with hp := h.hp.set l2 k2 }) (fun r => if r.i = b.i then { h with hp := h.hp.set l1 k1 } else { h with hp := h.hp.set l2 k2 }) (fun _ => tm) (fun q => absurd q notall) (fun r hr hrb hri _ => ?_) (fun r hr hrb hri _ => ?_)
      · rcases two r hr hrb hri with rfl | rfl
        · rw [if_pos rfl]
          exact ⟨hevb.1, fun t _ => by rw [hevb.2]; rfl, ⟨rfl, fun _ => rfl⟩, hhx⟩
        · rw [if_neg (Ne.symm hne)]
          exact ⟨hevy.1, fun t _ => by rw [hevy.2]; rfl, ⟨rfl, fun _ => rfl⟩, hhy⟩
      · rcases two r hr hrb hri with rfl | rfl
        · rw [if_pos rfl]; exact netx
        · rw [if_neg (Ne.symm hne)]; exact nety

theorem draw_any {P : Program} {b0 : Nat} {cf : CF} {ye : YE} (hcf : SF P cf) (hye : SY P ye) {ops : Array Oper} {rows : List Row} {all nn : Nat} {df : List DF} (hg : Reg ops rows all) (hroom : ∀ r ∈ rows, ∀ t, r.o.dst = some t → t < nn)
    {r0 : Option Nat} {Q : Exit → Act → World → Prop} {tm' : T D} {h' : H} {M0 : Mem} {w0 : World} (hb0 : M0.nx ≤ b0) (hQ : ∀ M w a, Rep M { n := nn, tm := tm', h := h', df := df } w a → Ext M0 w0 M w → Q .normal a w) :
    ∀ (fuel bm must : Nat) (tm : T D) (h : H) (listed : Array Bool) (M : Mem) (w : World) (a : Act), Stage P b0 ops rows all nn df bm must tm h listed M w a →
      Net P cf ye b0 (fun j => (ops[j]?).bind (·.dst)) rows all tm' h' bm must tm h → Ext M0 w0 M w → (List.range ops.size).countP (fun k => !listed.getD k true) ≤ fuel → wpAnyIn (WF r0) 0 P .any ops Q fuel listed a w := by
  have fin : ∀ (bm must : Nat) (tm : T D) (h : H) (listed : Array Bool) (M : Mem) (w : World) (a : Act), Stage P b0 ops rows all nn df bm must tm h listed M w a →
      Net P cf ye b0 (fun j => (ops[j]?).bind (·.dst)) rows all tm' h' bm must tm h → Ext M0 w0 M w → (∀ i, i < ops.size → listed.getD i true = true) → Q .normal a w := by
    intro bm must tm h listed M w a hi hs he hall
    have hr : ∀ r ∈ rows, listed.getD r.i false = true := fun r hr => by
      have hlt := (Array.getElem?_eq_some_iff.1 (hg.row r hr)).1
      have := hall r.i hlt
      have h2 : r.i < listed.size := by rw [hi.size]; exact hlt
      simpa [Array.getD, h2] using this
    cases hs with
    | mk _ _ _ _ sd s1 s2 st hfin _ _ =>
    obtain ⟨rfl, e2, e3⟩ := hfin (fun b hb hbb => (hi.big b hb hbb).1 (hr b hb))
    exact hQ M w a ⟨hi.mem.same e3 e2, ⟨hi.sz, fun t d hd => hi.vals t d (fun r hr' _ _ => hr r hr') hd⟩, hi.df⟩ he
  intro fuel
  induction fuel with
  | zero =>
    intro bm must tm h listed M w a hi hs he hc
    have hall : ∀ i, i < ops.size → listed.getD i true = true := fun i hlt => by
      have := List.countP_eq_zero.1 (Nat.le_zero.1 hc) i (List.mem_range.2 hlt)
      simpa using this
    refine ⟨?_, fin _ _ _ _ _ _ _ _ hi hs he hall⟩
    cases hr : Region.ready .any ops listed with
    | nil => rfl
    | cons i r =>
      have := (mem_ready.1 (hr ▸ List.mem_cons_self (a := i) (l := r))).1
      obtain ⟨o, ho, _⟩ := (mem_ready.1 (hr ▸ List.mem_cons_self (a := i) (l := r))).2
      rw [hall i (Array.getElem?_eq_some_iff.1 ho).1] at this
      cases this
  | succ fuel ih =>
    intro bm must tm h listed M w a hi hs he hc
    refine ⟨fun hr => fin _ _ _ _ _ _ _ _ hi hs he (ready_all hg hi.size hr), fun i hri => ?_⟩
    obtain ⟨hun, o, ho, hedges⟩ := mem_ready.1 hri
    have hin : i < ops.size := (Array.getElem?_eq_some_iff.1 ho).1
    have his : i < listed.size := by rw [hi.size]; exact hin
    have hun' : listed.getD i false = false := by simpa [Array.getD, his] using hun
    obtain ⟨r, hr, hri'⟩ := hg.has i o ho
    have hro : r.o = o := by have := hg.row r hr; rw [hri', ho] at this; exact (Option.some.inj this).symm
    have hanc : ∀ x, r.anc.testBit x = true → listed.getD x false = true := fun x hx => by
      obtain ⟨e, e1, e2, e3⟩ := hg.anc r hr x hx
      have hl := hedges e (by rw [hro] at e1; exact Array.mem_toList_iff.1 e1) e2
      rcases e3 with rfl | ⟨k, k1, k2, k3⟩
      · exact hl
      · exact hi.closed k k1 (by rw [k2]; exact hl) x k3
    have hlook : ∀ t ∈ looks r.o (fun j => (ops[j]?).bind (·.dst)), okT rows listed t := fun t ht k hk hkb hkd => hanc _ (hg.looks r hr t ht k hk hkb hkd)
    have hopd : ∀ x ∈ r.o.op.operands, partF tm (okT rows listed) x = valT tm x := fun x hx => partF_eq fun t ht => hlook t (by
      subst ht
      unfold looks
      exact List.mem_append_left _ (List.mem_filterMap.2 ⟨.tmp t, by simpa using hx, rfl⟩))
    have hguard : ∀ b, guardE (fun j => (ops[j]?).bind (·.dst)) tm r.o.guard = some b → Region.wanted o (yielded ops a.tmps) = b := fun b hb => by
      rw [← hro]
      exact guard_ok' (fun j q t hgd ht d hd => hi.vals t d (hlook t (by unfold looks; rw [hgd]; simp only; rw [ht]; simp)) hd) hb
    have hRf : ∀ x, R M (partF tm (okT rows listed) x) (a.eval x) := partF_R hi.vals
    have hcount : (List.range ops.size).countP (fun k => !(listed.setIfInBounds i true).getD k true) ≤ fuel := by
      have := countP_set ops.size hin his hun
      omega
    have hset := fun j => getD_set (j := j) his
    have hclosed : ∀ k ∈ rows, (listed.setIfInBounds i true).getD k.i false = true → ∀ x, k.anc.testBit x = true → (listed.setIfInBounds i true).getD x false = true := by
      intro k hk hkl x hx
      rw [hset] at hkl ⊢
      split
      · rfl
      · split at hkl
        · rename_i hik
          have : k = r := hg.uniq k hk r hr (by omega)
          subst this
          exact hanc x hx
        · exact hi.closed k hk hkl x hx
    have helig : ∀ k ∈ rows, k.big = false → listed.getD k.i false = true → elig all bm k = true := fun k hk _ hkl => by
      unfold elig
      have : (k.anc &&& all) ||| bm = bm := by
        apply Nat.eq_of_testBit_eq
        intro x
        rw [Nat.testBit_or, Nat.testBit_and]
        cases h1 : k.anc.testBit x with
        | false => simp
        | true =>
          cases h2 : all.testBit x with
          | false => simp
          | true =>
            obtain ⟨q, q1, q2, rfl⟩ := (hg.all x).1 h2
            have := (hi.big q q1 q2).1 (hi.closed k hk hkl _ h1)
            simp [this]
      rw [this]
      exact Nat.beq_refl bm
    -- the value is put into its slot
    have hdf : ∀ (M' : Mem), M.le M' → ∀ v, DfsOk M' df (a.put o.dst v).defers := fun M' hl v => by rw [put_defers]; exact hi.df.mono hl
    have hresE : ∀ M' w', Ext M w M' w' → ∀ k ∈ rows, isAlloc k.o = true → (listed.setIfInBounds i true).getD k.i false = false → M'.μ (b0 + k.i) = .res ∧ b0 + k.i < M'.nx := fun M' w' e3 k hk hka hkl => by
      rw [hset] at hkl
      split at hkl
      · cases hkl
      · obtain ⟨q1, q2⟩ := hi.res k hk hka hkl
        exact ⟨e3.res _ q2 q1, Nat.lt_of_lt_of_le q2 e3.nx⟩
    unfold wpOpIn
    simp only [ho]
    cases hbig : r.big with
    | false =>
      have hhold := List.all_eq_true.1 hi.hold r hr
      have hel : elig all bm r = true := by
        unfold elig
        have : (r.anc &&& all) ||| bm = bm := by
          apply Nat.eq_of_testBit_eq
          intro x
          rw [Nat.testBit_or, Nat.testBit_and]
          cases h1 : r.anc.testBit x with
          | false => simp
          | true =>
            cases h2 : all.testBit x with
            | false => simp
            | true =>
              obtain ⟨q, q1, q2, rfl⟩ := (hg.all x).1 h2
              have := (hi.big q q1 q2).1 (hanc _ h1)
              simp [this]
        rw [this]
        exact Nat.beq_refl bm
      have hmu : must.testBit r.i = false := by
        cases hm : must.testBit r.i with
        | false => rfl
        | true => have := hi.must r hr hm; rw [hri', hun'] at this; cases this
      rw [hbig, hel, hmu] at hhold
      simp only [Bool.not_true, Bool.false_or] at hhold
      split at hhold
      case h_2 => cases hhold
      rename_i d hd
      have next0 : ∀ M' w' v, RH M' h w' → R M' d v → M.le M' → Ext M0 w0 M' w' → (∀ k ∈ rows, isAlloc k.o = true → (listed.setIfInBounds i true).getD k.i false = false → M'.μ (b0 + k.i) = .res ∧ b0 + k.i < M'.nx) →
          wpAnyIn (WF r0) 0 P .any ops Q fuel (listed.setIfInBounds i true) (a.put o.dst v) w' := by
        intro M' w' v e1 e2 hle hext hres
        refine ih bm must tm h _ M' w' _ ⟨by simpa using hi.size, hclosed, fun k hk hkb => ?_, fun k hk hkm => ?_, hi.hold, e1, by rw [put_size]; exact hi.sz, fun t e hok hte => ?_, hdf M' hle v, hres⟩ hs hext hcount
        · rw [hset, if_neg (fun q => by have := hg.uniq k hk r hr (by omega); rw [this, hbig] at hkb; cases hkb)]
          exact hi.big k hk hkb
        · rw [hset]
          split
          · rfl
          · exact hi.must k hk hkm
        · by_cases hdst : o.dst = some t
          · rw [hdst]
            have hlt : t < a.tmps.size := by rw [hi.sz]; exact hroom r hr t (by rw [hro]; exact hdst)
            rw [put_same hlt]
            rw [hro, hdst] at hhold
            simp only [hte] at hhold
            rw [← dEqb_eq _ _ hhold]
            exact e2
          · rw [put_other hdst]
            refine (hi.vals t e (fun k hk hkb hkd => ?_) hte).mono hle
            have := hok k hk hkb hkd
            rw [hset] at this
            split at this
            · rename_i hik
              have hkr := hg.uniq k hk r hr (by omega)
              rw [hkr, hro] at hkd
              exact absurd hkd hdst
            · exact this
      have next : ∀ M' w' v, RH M' h w' → R M' d v → Ext M w M' w' → wpAnyIn (WF r0) 0 P .any ops Q fuel (listed.setIfInBounds i true) (a.put o.dst v) w' :=
        fun M' w' v e1 e2 e3 => next0 M' w' v e1 e2 e3.le (he.trans e3) (hresE M' w' e3)
      unfold lightE at hd
      split at hd
      · rename_i hgd
        rw [if_pos (hguard true hgd)]
        cases hal : isAlloc r.o with
        | true =>
          rw [hal] at hd
          simp only [cond_true] at hd
          obtain ⟨hres1, hres2⟩ := hi.res r hr hal (by rw [hri']; exact hun')
          have fill : ∀ (obj : Obj) (k : Blk) (v : Value), (execOp a.eval o).run P w = .ok (.value v) (w.alloc obj) → h.hp.get (b0 + r.i) = some k →
              (M.le (M.set (b0 + r.i) (.blk w.heap.size 0) M.nx) → RB (M.set (b0 + r.i) (.blk w.heap.size 0) M.nx) (w.alloc obj) k w.heap.size 0) →
              ((M.set (b0 + r.i) (.blk w.heap.size 0) M.nx).at (b0 + r.i) w.heap.size → R (M.set (b0 + r.i) (.blk w.heap.size 0) M.nx) d v) →
              o.wpIn (WF r0) 0 P a w (wpAnyIn (WF r0) 0 P .any ops Q fuel (listed.setIfInBounds i true)) Q := by
            intro obj k0 v hrun hcell hRB hRv
            refine ⟨fun _ _ => trivial, ?_⟩
            rw [semAt_exec (fun c hc' => by
              rw [← hro] at hc'
              rw [isAlloc, hc'] at hal
              simp at hal), hrun]
            have hμ : ∀ l, (M.set (b0 + r.i) (.blk w.heap.size 0) M.nx).μ l = if l = b0 + r.i then .blk w.heap.size 0 else M.μ l := fun l => rfl
            have hle : M.le (M.set (b0 + r.i) (.blk w.heap.size 0) M.nx) := ⟨Nat.le_refl _, fun l hl => by
              rw [hμ]
              by_cases e : l = b0 + r.i
              · exact .inr (.inr (e ▸ hres1))
              · rw [if_neg e]; exact .inl rfl, fun _ _ h => h⟩
            have hold : ∀ b, b < w.heap.size → (w.alloc obj).heap[b]? = w.heap[b]? := fun b hb => Aw.halloc_old w _ b hb
            have hsz : (w.alloc obj).heap.size = w.heap.size + 1 := by simp
            have oldb : ∀ l b c, (M.set (b0 + r.i) (.blk w.heap.size 0) M.nx).μ l = .blk b c → (l = b0 + r.i ∧ b = w.heap.size) ∨ (l ≠ b0 + r.i ∧ M.μ l = .blk b c) := fun l b c e => by
              rw [hμ] at e
              by_cases q : l = b0 + r.i
              · rw [if_pos q] at e; cases e; exact .inl ⟨q, rfl⟩
              · rw [if_neg q] at e; exact .inr ⟨q, e⟩
            refine next0 (M.set (b0 + r.i) (.blk w.heap.size 0) M.nx) _ _ ⟨⟨fun l l' b c c' e e' => ?_, fun l b c e => ?_, fun l b c e => ?_, fun b q e => ?_, fun b q e l k e' => ?_⟩, fun l k e => ?_, hi.mem.nx⟩ (hRv ⟨hres2, fun b' c' e => by rw [hμ, if_pos rfl] at e; cases e; rfl, by rw [hμ, if_pos rfl]; simp, by rw [hμ, if_pos rfl]; simp⟩) hle ?_ (fun k hk hka hkl => ?_)
            · rcases oldb _ _ _ e with ⟨q1, q2⟩ | ⟨q1, q2⟩ <;> rcases oldb _ _ _ e' with ⟨p1, p2⟩ | ⟨p1, p2⟩
              · rw [q1, p1]
              · have := hi.mem.inv.lt _ _ _ p2; omega
              · have := hi.mem.inv.lt _ _ _ q2; omega
              · exact hi.mem.inv.inj _ _ _ _ _ q2 p2
            · rw [hsz]
              rcases oldb _ _ _ e with ⟨q1, q2⟩ | ⟨q1, q2⟩
              · omega
              · have := hi.mem.inv.lt _ _ _ q2; omega
            · rcases oldb _ _ _ e with ⟨q1, q2⟩ | ⟨q1, q2⟩
              · rw [q1]; exact hres2
              · exact hi.mem.inv.nx _ _ _ q2
            · obtain ⟨ty, fr, e2⟩ := hi.mem.inv.fz b q e
              exact ⟨ty, fr, (hold b (hi.mem.inv.fzlt e)).trans e2⟩
            · rcases oldb _ _ _ e' with ⟨q1, q2⟩ | ⟨q1, q2⟩
              · have := hi.mem.inv.fzlt (M := M) e; omega
              · exact hi.mem.inv.sep b q e l k q2
            · by_cases q : l = b0 + r.i
              · subst q
                rw [hcell] at e
                cases e
                rw [hμ, if_pos rfl]
                exact hRB hle
              · rw [hμ, if_neg q]
                exact (hi.mem.hp l k e).mono hle (fun b c e2 => hold b (hi.mem.inv.lt _ _ _ e2))
            · refine ⟨he.os, he.tape, he.output, by rw [hsz]; have := he.size; omega, fun b hb hn => (hold b (Nat.lt_of_lt_of_le hb he.size)).trans (he.keep b hb hn), fun l b c e => ?_, he.nx, fun l hl => ?_, he.fz, he.fznew, fun l hl e => ?_⟩
              · rcases oldb _ _ _ e with ⟨q1, q2⟩ | ⟨q1, q2⟩
                · exact .inr (by rw [q2]; exact he.size)
                · exact he.new l b c q2
              · rw [hμ, if_neg (by omega)]; exact he.mono l hl
              · rw [hμ, if_neg (by omega)]; exact he.res l hl e
            · rw [hset] at hkl
              split at hkl
              · cases hkl
              · rename_i hki
                obtain ⟨q1, q2⟩ := hi.res k hk hka hkl
                exact ⟨by rw [hμ, if_neg (by omega)]; exact q1, q2⟩
          unfold allocV at hd
          split at hd
          case h_4 => cases hd
          · rename_i t hop
            split at hd
            case h_2 => cases hd
            rename_i ti hti
            obtain ⟨it, dt, zt, ht⟩ := tiOf_spec hti
            split at hd
            case h_2 => cases hd
            rename_i t' ds hcell
            obtain ⟨hc, hd⟩ := bif_some hd
            cases hd
            simp only [Bool.and_eq_true] at hc
            have := Nat.eq_of_beq_eq_true hc.1
            subst this
            have hds := lEqb_eq _ _ hc.2
            subst hds
            obtain ⟨hz1, hz2⟩ := zeros_get ht M
            have hrun : (execOp a.eval o).run P w = .ok (.value (.pointer (some ⟨w.heap.size, 0, none⟩))) (w.alloc (.cells zt.cells t)) := by
              rw [hro] at hop
              simp [execOp, hop, Instr.alloc, zeroValue, typeInfo, ht.info, ht.zero, newVar, newRow, Sem.run_bind]
            exact fill _ _ _ hrun hcell (fun hle => ⟨zt.cells, Aw.halloc_new w _, hz1, fun j x hj => ⟨(hz2 j x hj).1, (hz2 j x hj).2.mono hle⟩⟩) (fun ha => .pt _ _ _ ha)
          · rename_i t hop
            split at hd
            case h_2 => cases hd
            rename_i es hcell
            obtain ⟨hc, hd⟩ := bif_some hd
            cases hd
            have : es = [] := by simpa using hc
            subst this
            have hrun : (execOp a.eval o).run P w = .ok (.value (.map (some w.heap.size))) (w.alloc (.map #[] 0)) := by
              rw [hro] at hop
              simp [execOp, hop, Instr.makeMap, Sem.run_bind]
            exact fill _ _ _ hrun hcell (fun hle => ⟨#[], Aw.halloc_new w _, rfl, fun i p hp => by simp at hp⟩) (fun ha => .mp _ _ ha)
          · rename_i t x y hop
            split at hd
            case h_2 => cases hd
            rename_i tsize tbytes e tz htt
            obtain ⟨it, dt, zt, ht⟩ := tiOf_spec htt
            have hte := Aw.und_sl ht rfl
            split at hd
            case h_2 => cases hd
            rename_i ti kn n kc c hti hx hy
            obtain ⟨i', d', z, hi'⟩ := tiOf_spec hti
            split at hd
            case h_2 => cases hd
            rename_i t' ds hcell
            obtain ⟨hc, hd⟩ := bif_some hd
            cases hd
            simp only [Bool.and_eq_true, Nat.ble_eq, Nat.blt_eq] at hc
            obtain ⟨hsz, hnc, hbt, hcm, het, hds⟩ := hc
            have := Nat.eq_of_beq_eq_true hnc
            subst this
            have := Nat.eq_of_beq_eq_true het
            subst this
            have hds := lEqb_eq _ _ hds
            subst hds
            have hvx := hRf x
            rw [hopd x (by rw [hop]; simp [Op.operands]), hx] at hvx
            have hvy := hRf y
            rw [hopd y (by rw [hop]; simp [Op.operands]), hy] at hvy
            have hzc : z.cells.size = ti.size := by rw [← Array.length_toList, hi'.cells]; simpa using hi'.len
            have hrun := run_make (P := P) w t e i' z hte hi'.info hi'.zero kn kc (n : Int) (n : Int) (by omega) (by omega) (by rw [hi'.bytes, ← Int.natCast_mul]; omega) (by omega)
            rw [hi'.size] at hrun
            simp only [Int.toNat_natCast] at hrun
            have hms : (madeCells z.cells (n * ti.size)).size = n * ti.size := by simp [madeCells]
            have hrun' : (execOp a.eval o).run P w = .ok (.value (.slice (some ⟨w.heap.size, 0, none⟩) n n)) (w.alloc (.cells (madeCells z.cells (n * ti.size)) e)) := by
              rw [hro] at hop
              have e1 : a.eval x = .int kn n := hvx.litE
              have e2 : a.eval y = .int kc n := hvy.litE
              simp only [execOp, hop, e1, e2, Sem.run_bind, hrun, Result.andThen_ok, Sem.run_pure]
            refine fill _ _ _ hrun' hcell (fun hle => ⟨_, Aw.halloc_new w _, by rw [hms, zerosE_length ti hi'.len], fun j q hj => ?_⟩) (fun ha => .sl _ _ _ _ _ _ ha (fun q hq => by cases hq; rfl) (by simp) (Nat.le_refl _) (by simpa [maxLen] using hcm))
            have hlt : j < n * ti.size := by rw [← zerosE_length ti hi'.len n]; exact (List.getElem?_eq_some_iff.1 hj).1
            have : (madeCells z.cells (n * ti.size)).getD j undef = z.cells[j % z.cells.size]! := by
              simp [madeCells, Array.getD_eq_getD_getElem?, hlt]
            rw [this]
            exact zeros_cells hi' hsz _ n j q hj
        | false =>
        rw [hal] at hd
        simp only [cond_false, Option.map_eq_some_iff] at hd
        obtain ⟨⟨d1, h1⟩, hop, rfl⟩ := hd
        have hrd := (hg.read r hr hbig).resolve_right (by rw [hal]; simp)
        have hsame := reader_same hrd hop
        subst hsame
        have hev : evalOp P cf ye (partF tm (okT rows listed)) h1 o.op = some (d1, h1) := by
          rw [← hro, evalOp_congr hopd, evalOp_reader hrd]
          exact hop
        exact evalOp_ok hcf hye hi.mem hRf hev _ _ fun M' w' v e1 e2 e3 => next M' w' v e1 e2 e3
      · rename_i hgd
        cases hd
        rw [if_neg (by rw [hguard false hgd]; simp)]
        exact ⟨fun _ _ => trivial, next M w undef hi.mem .un (Ext.refl M w)⟩
      · cases hd
    | true =>
      have hav : ∀ k ∈ rows, k.big = true → r.anc.testBit k.i = true → bm.testBit k.i = true := fun k hk hkb hka => (hi.big k hk hkb).1 (hanc _ hka)
      have hbi : bm.testBit r.i = false := by
        cases hb : bm.testBit r.i with
        | false => rfl
        | true => have := (hi.big r hr hbig).2 hb; rw [hri', hun'] at this; cases this
      cases hs with
      | mk _ _ _ _ sd s1 s2 st hfin hok hnext =>
      obtain ⟨hbe, hpass, ⟨hnx2, hget2⟩, hhold⟩ := hok r hr hbig hbi hav
      have hst := hnext r hr hbig hbi hav
      have step : ∀ M' w' v, RH M' (s1 r) w' → R M' (sd r) v → Ext M w M' w' → wpAnyIn (WF r0) 0 P .any ops Q fuel (listed.setIfInBounds i true) (a.put o.dst v) w' := by
        intro M' w' v e1 e2 e3
        refine ih _ _ (st r) (s2 r) _ M' w' _ ⟨by simpa using hi.size, hclosed, fun k hk hkb => ?_, fun k hk hkm => ?_, hhold, e1.same hget2 hnx2, by rw [put_size]; exact hi.sz, fun t e hok hte => ?_, hdf M' e3.le v, hresE M' w' e3⟩ hst (he.trans e3) hcount
        · rw [hset, Nat.testBit_or, testBit_bit]
          by_cases hik : i = k.i
          · rw [if_pos hik]; simp [hri', hik]
          · rw [if_neg hik]
            have : ¬ r.i = k.i := by omega
            simp only [this, decide_false, Bool.or_false]
            exact hi.big k hk hkb
        · rw [Nat.testBit_or] at hkm
          rw [hset]
          split
          · rfl
          · rcases Bool.or_eq_true _ _ |>.mp hkm with q | q
            · exact hi.must k hk q
            · exact hanc _ q
        · have hold : ∀ k ∈ rows, k.big = false → k.o.dst = some t → listed.getD k.i false = true := fun k hk hkb hkd => by
            have := hok k hk hkb hkd
            rw [hset] at this
            split at this
            · rename_i hik
              have hkr := hg.uniq k hk r hr (by omega)
              rw [hkr, hbig] at hkb
              cases hkb
            · exact this
          rw [hpass t fun k hk hkb _ hko hkd => by
            have := helig k hk hkb (hold k hk hkb hkd)
            simp only [oldE] at hko
            rw [this] at hko
            cases hko] at hte
          by_cases hdst : o.dst = some t
          · rw [hro, hdst] at hte
            simp only [putT, T.get_set, if_pos, Option.some.injEq] at hte
            subst hte
            rw [hdst]
            have hlt : t < a.tmps.size := by rw [hi.sz]; exact hroom r hr t (by rw [hro]; exact hdst)
            rw [put_same hlt]
            exact e2
          · rw [put_other hdst]
            have : (putT tm r.o.dst (sd r)).get t = tm.get t := by
              rw [hro]
              cases hd2 : o.dst with
              | none => rfl
              | some u =>
                simp only [putT, T.get_set]
                rw [if_neg (fun e => hdst (by rw [hd2, e]))]
            rw [this] at hte
            exact (hi.vals t e hold hte).mono e3.le
      unfold bigE at hbe
      split at hbe
      · rename_i hgd
        rw [if_pos (hguard true hgd)]
        have hev : evalOp P cf ye (partF tm (okT rows listed)) h o.op = some (sd r, s1 r) := by
          rw [← hro, evalOp_congr hopd]
          exact hbe
        exact evalOp_ok hcf hye hi.mem hRf hev _ _ fun M' w' v e1 e2 e3 => step M' w' v e1 e2 e3
      · rename_i hgd
        simp only [Option.some.injEq, Prod.mk.injEq] at hbe
        obtain ⟨hb1, hb2⟩ := hbe
        rw [if_neg (by rw [hguard false hgd]; simp)]
        exact ⟨fun _ _ => trivial, step M w undef (hb2 ▸ hi.mem) (hb1 ▸ .un) (Ext.refl M w)⟩
      · cases hbe

theorem resv_get {P : Program} {b0 : Nat} {pre : T D} (l : Nat) : ∀ (rows : List Row) (hp : T Blk), (∀ r ∈ rows, isAlloc r.o = true → b0 + r.i ≠ l) → (resv P b0 pre rows hp).get l = hp.get l
  | [], hp, _ => rfl
  | r :: rows, hp, h => by
    simp only [resv]
    rw [resv_get l rows _ (fun q hq => h q (List.mem_cons_of_mem _ hq))]
    cases ha : isAlloc r.o with
    | false => rfl
    | true =>
      simp only [cond_true]
      split
      · split
        · rw [T.get_set, if_neg (h r (by simp) ha)]
        · rfl
      · rw [T.get_set, if_neg (h r (by simp) ha)]
      · split
        · split
          · rw [cond_eq_ite]
            split
            · rw [T.get_set, if_neg (h r (by simp) ha)]
            · rfl
          · rfl
        · rfl
      · rfl

/-- Names are set aside. -/
theorem resv_ok {P : Program} {M : Mem} {h : H} {w : World} (hr : RH M h w) {rows : List Row} {pre : T D} {N : Nat} (hN : ∀ r ∈ rows, r.i < N) :
    ∃ M', RH M' { hp := bif rows.any (fun r => isAlloc r.o) then resv P h.nx pre rows h.hp else h.hp, nx := h.nx + (bif rows.any (fun r => isAlloc r.o) then N else 0) } w ∧ Ext M w M' w ∧ ∀ r ∈ rows, isAlloc r.o = true → M'.μ (h.nx + r.i) = .res ∧ h.nx + r.i < M'.nx := by
  generalize hK : (bif rows.any (fun r => isAlloc r.o) then N else 0) = K
  have hlt : ∀ r ∈ rows, isAlloc r.o = true → r.i < K := fun r hr ha => by
    have : rows.any (fun r => isAlloc r.o) = true := List.any_eq_true.2 ⟨r, hr, ha⟩
    rw [this] at hK
    simp only [cond_true] at hK
    rw [← hK]
    exact hN r hr
  let M' : Mem := { μ := fun l => if h.nx ≤ l ∧ l < h.nx + K then .res else M.μ l, nx := h.nx + K, fz := M.fz }
  have hμ : ∀ l, M'.μ l = if h.nx ≤ l ∧ l < h.nx + K then .res else M.μ l := fun l => rfl
  have old : ∀ l b c, M'.μ l = .blk b c → M.μ l = .blk b c := fun l b c e => by
    rw [hμ] at e
    split at e
    · cases e
    · exact e
  have hnx := hr.nx
  have same : ∀ l, l < M.nx → M'.μ l = M.μ l := fun l hl => by rw [hμ, if_neg (by omega)]
  have hle : M.le M' := ⟨by show M.nx ≤ h.nx + K; omega, fun l hl => .inl (same l hl), fun _ _ h => h⟩
  refine ⟨M', ⟨⟨fun l l' b c c' e e' => hr.inv.inj l l' b c c' (old _ _ _ e) (old _ _ _ e'), fun l b c e => hr.inv.lt l b c (old _ _ _ e), fun l b c e => ?_, hr.inv.fz, fun b q e l k e' => hr.inv.sep b q e l k (old _ _ _ e')⟩, fun l k e => ?_, rfl⟩,
    ⟨rfl, rfl, rfl, Nat.le_refl _, fun _ _ _ => rfl, fun l b c e => .inl ⟨l, c, old _ _ _ e⟩, hle.nx, fun l hl => .inl (same l hl), fun _ _ h => h, fun _ _ h => .inl h, fun l hl e => (same l hl).trans e⟩, fun r hr ha => ?_⟩
  · have := hr.inv.nx l b c (old _ _ _ e)
    show l < h.nx + K
    omega
  · by_cases q : h.nx ≤ l ∧ l < h.nx + K
    · rw [hμ, if_pos q]; trivial
    · rw [hμ, if_neg q]
      have e : (bif rows.any (fun r => isAlloc r.o) then resv P h.nx pre rows h.hp else h.hp).get l = some k := e
      rw [cond_eq_ite] at e
      split at e
      case isFalse => exact (hr.hp l k e).mono hle (fun _ _ _ => rfl)
      rw [resv_get l rows h.hp (fun r hr ha e2 => q (by have := hlt r hr ha; omega))] at e
      exact (hr.hp l k e).mono hle (fun _ _ _ => rfl)
  · have := hlt r hr ha
    exact ⟨by rw [hμ, if_pos (by omega)], by show _ < h.nx + K; omega⟩

theorem draw_ok {P : Program} {cf : CF} {ye : YE} (hcf : SF P cf) (hye : SY P ye) : SD P (drawE P cf ye) := by
  intro ops s s' he id r M w a Q hr hK
  unfold drawE at he
  simp only at he
  split at he
  case h_2 => cases he
  rename_i as has
  obtain ⟨hc, he⟩ := bif_some he
  simp only [Bool.and_eq_true] at hc
  obtain ⟨c2, c3, c4, c5⟩ := hc
  split at he
  case h_2 => cases he
  rename_i tm hps
  obtain ⟨hhold, he⟩ := bif_some he
  split at he
  case h_2 => cases he
  rename_i tm' h' hst
  cases he
  have hg := reg_ok has c2 c3
  have hroom : ∀ r ∈ rowsOf ops.toList as (ops.toList.flatMap fun o => looks o fun j => (ops[j]?).bind (·.dst)) 0, ∀ t, r.o.dst = some t → t < s.n := fun r hr t ht => by
    have ho := hg.row r hr
    have := List.all_eq_true.1 c4 r.o (by rw [← Array.mem_def]; exact Array.mem_of_getElem? ho)
    rw [ht] at this
    simpa [St.room, Nat.blt_eq] using this
  refine wpIn_region_any c5 ?_
  obtain ⟨d1', d2'⟩ := hr.h.drawn (w.drawn + 1)
  obtain ⟨M1, g1, g2, g3⟩ := resv_ok (P := P) (pre := preE P s.h (fun j => (ops[j]?).bind (·.dst)) (rowsOf ops.toList as (ops.toList.flatMap fun o => looks o fun j => (ops[j]?).bind (·.dst)) 0) s.tm) (rows := rowsOf ops.toList as (ops.toList.flatMap fun o => looks o fun j => (ops[j]?).bind (·.dst)) 0) (N := ops.size) d1' (fun r hr => (Array.getElem?_eq_some_iff.1 (hg.row r hr)).1)
  have d2 := d2'.trans g2
  have hf : ∀ j, (Array.replicate ops.size false).getD j false = false := fun j => by
    simp only [Array.getD_eq_getD_getElem?, Array.getElem?_replicate]
    split <;> rfl
  refine draw_any hcf hye hg hroom (r0 := r) (Q := Q) (tm' := tm') (h' := h') (b0 := s.h.nx) (M0 := M) (w0 := w) (df := s.df) (Nat.le_of_eq hr.h.nx.symm) (fun M' w' a' e1 e2 => hK M' w' a' e1 e2) ops.size 0 0 tm _ _ M1 { w with drawn := w.drawn + 1 } a
    ⟨by simp, fun k hk hkl => (by rw [hf] at hkl; cases hkl), fun k hk hkb => (by rw [hf]; simp), fun k hk hkm => (by simp at hkm), hhold, g1, hr.t.1, fun t e hok hte => ?_, hr.df.mono d2.le, fun r hr' hra _ => g3 r hr' hra⟩ (stage_net hg.uniq _ 0 0 tm _ hst (fun r hr hrb => ⟨fun _ => by simp, fun _ => List.mem_filter.2 ⟨hr, hrb⟩⟩) (fun r hr => List.mem_filter.1 hr) ((rowsOf_pair _ _ _ _).filter _)) d2 ?_
  · rw [pass_get _ _ _ hps fun k hk hkb _ _ hkd => by have := hok k hk hkb hkd; rw [hf] at this; cases this] at hte
    exact (hr.t.2 t e hte).mono d2.le
  · exact Nat.le_trans List.countP_le_length (by simp)

/-- The engine is sound. -/
theorem eng_sound {P : Program} {ex : CF} (hex : SX P ex) (N n : Nat) : SF P (eng P ex (drawE P) N n).1 := (eng_ok hex (fun _ _ h1 h2 => draw_ok h1 h2) N n).1
end Go.Ev

/-
  From the engine to a row: calls that are reckoned by the kernel.
-/
namespace Go.Ev

/-- Memory in which nothing is the call's own. -/
def Mem.none (fz : Nat → Option (Array Value)) : Mem := { μ := fun _ => .dead, nx := 0, fz := fz }

end Go.Ev

/-
  The engine beside a table of calls that are reckoned.
-/
namespace Go.Ev
open Go.Aw (enters litOk)

def kvEqb : Value → Value → Bool
  | .agg a, .agg b => vsEqb a.toList b.toList
  | a, b => vEqb a b

theorem kvEqb_eq {a b : Value} (h : kvEqb a b = true) : a = b := by
  unfold kvEqb at h
  split at h
  · congr 1
    exact Array.ext' (vsEqb_eq _ _ h)
  · exact vEqb_eq h

def kEqb : List (Value × D) → List (Value × D) → Bool
  | [], [] => true
  | a :: l, b :: m => kvEqb a.1 b.1 && (dEqb a.2 b.2 && kEqb l m)
  | _, _ => false

theorem kEqb_eq : ∀ (a b : List (Value × D)), kEqb a b = true → a = b
  | [], b, h => by cases b <;> simp only [kEqb, Bool.false_eq_true] at h; rfl
  | (k, d) :: l, b, h => by
    cases b <;> simp only [kEqb, Bool.false_eq_true, Bool.and_eq_true] at h
    rename_i b m
    obtain ⟨k', d'⟩ := b
    rw [kvEqb_eq h.1, dEqb_eq _ _ h.2.1, kEqb_eq _ _ h.2.2]

def oEqb : Option Nat → Option Nat → Bool
  | none, none => true
  | some a, some b => Nat.beq a b
  | _, _ => false

theorem oEqb_eq {a b : Option Nat} (h : oEqb a b = true) : a = b := by
  cases a <;> cases b <;> simp only [oEqb, Bool.false_eq_true] at h
  · rfl
  · rw [Nat.eq_of_beq_eq_true h]

def blkEqb : Blk → Blk → Bool
  | .cells t o ds, .cells t' o' ds' => Nat.beq t t' && (oEqb o o' && lEqb ds ds')
  | .dfr, .dfr => true
  | .map es, .map es' => kEqb es es'
  | _, _ => false

theorem blkEqb_eq {a b : Blk} (h : blkEqb a b = true) : a = b := by
  cases a <;> cases b <;> simp only [blkEqb, Bool.false_eq_true, Bool.and_eq_true] at h
  · rw [Nat.eq_of_beq_eq_true h.1, oEqb_eq h.2.1, lEqb_eq _ _ h.2.2]
  · rfl
  · rw [kEqb_eq _ _ h]

/-- A call that is reckoned: of what, in what memory, and what comes of it. -/
structure Ent where
  g : FuncId
  args : List D
  hp : List (Nat × Blk)
  nx : Nat
  d : D
  hp' : List (Nat × Blk)
  nx' : Nat

def ofL : List (Nat × Blk) → T Blk
  | [] => .e
  | (l, k) :: r => (ofL r).set l k

def hasL (h : H) (nx : Nat) : List (Nat × Blk) → Bool
  | [] => Nat.beq h.nx nx
  | (l, k) :: r => (match h.hp.get l with
    | some k' => blkEqb k' k
    | none => false) && hasL h nx r

theorem hasL_get {h : H} {nx : Nat} : ∀ (l : List (Nat × Blk)), hasL h nx l = true → h.nx = nx ∧ ∀ i k, (ofL l).get i = some k → h.hp.get i = some k
  | [], hh => ⟨Nat.eq_of_beq_eq_true hh, fun i k e => by simp [ofL, T.get] at e⟩
  | (j, q) :: r, hh => by
    simp only [hasL, Bool.and_eq_true] at hh
    obtain ⟨h1, h2⟩ := hasL_get r hh.2
    refine ⟨h1, fun i k e => ?_⟩
    simp only [ofL, T.get_set] at e
    split at e
    · rename_i hji
      subst hji
      cases e
      have := hh.1
      split at this
      · rename_i k' hk'
        rw [hk', blkEqb_eq this]
      · cases this
    · exact h2 i k e

theorem RH.has {M : Mem} {h : H} {w : World} (hr : RH M h w) {nx : Nat} {l : List (Nat × Blk)} (hh : hasL h nx l = true) : RH M { hp := ofL l, nx := nx } w :=
  ⟨hr.inv, fun i k e => hr.hp i k ((hasL_get l hh).2 i k e), (hasL_get l hh).1.symm.trans hr.nx⟩

def tab : List Ent → CF
  | [], _, _, _ => none
  | e :: r, g, args, h => bif Nat.beq g e.g && (lEqb args e.args && hasL h e.nx e.hp) then some (e.d, { hp := ofL e.hp', nx := e.nx' }) else tab r g args h

def EntOk (P : Program) (e : Ent) : Prop := enters P e.g = true ∧ ∀ M w vs, RH M { hp := ofL e.hp, nx := e.nx } w → argsOk M e.args vs → Calls P e.g vs w (Post M w e.d { hp := ofL e.hp', nx := e.nx' })

def orT (tb cf : CF) : CF := fun g args h => match tb g args h with
  | some r => some r
  | none => cf g args h

theorem orT_ok {P : Program} {tb cf : CF} (h1 : SF P tb) (h2 : SF P cf) : SF P (orT tb cf) := by
  intro g args h d h' he
  unfold orT at he
  split at he
  · rename_i r hr; cases he; exact h1 _ _ _ _ _ hr
  · exact h2 _ _ _ _ _ he

def engT (P : Program) (ex tb : CF) (N : Nat) : Nat → CF × YE
  | 0 => (fun _ _ _ => none, fun _ _ _ => none)
  | n + 1 => (orT tb (evalF P ex (engT P ex tb N n).1 (engT P ex tb N n).2 (drawE P (engT P ex tb N n).1 (engT P ex tb N n).2) N), evalY P (engT P ex tb N n).1 (engT P ex tb N n).2 (drawE P (engT P ex tb N n).1 (engT P ex tb N n).2) N)

theorem engT_ok {P : Program} {ex tb : CF} (hex : SX P ex) (htb : SF P tb) (N : Nat) : ∀ n, SF P (engT P ex tb N n).1 ∧ SY P (engT P ex tb N n).2
  | 0 => ⟨fun _ _ _ _ _ h => (by cases h), fun _ _ _ _ _ h => (by cases h)⟩
  | n + 1 => by
    obtain ⟨h1, h2⟩ := engT_ok hex htb N n
    exact ⟨orT_ok htb (evalF_ok hex h1 h2 (draw_ok h1 h2) N), evalY_ok h1 h2 (draw_ok h1 h2) N⟩

def chk (cf : CF) (e : Ent) : Bool :=
  match cf e.g e.args { hp := ofL e.hp, nx := e.nx } with
  | some (d, h) => dEqb d e.d && hasL h e.nx' e.hp'
  | none => false

theorem ent_ok {P : Program} {cf : CF} (hcf : SF P cf) {e : Ent} (hen : enters P e.g = true) (hc : chk cf e = true) : EntOk P e := by
  refine ⟨hen, fun M w vs hr hvs => ?_⟩
  unfold chk at hc
  split at hc
  case h_2 => cases hc
  rename_i d h hcall
  simp only [Bool.and_eq_true] at hc
  rcases hcf _ _ _ _ _ hcall with ⟨_, h1⟩ | ⟨h1, _⟩
  · refine (h1 M w vs hr hvs).mono ?_
    rintro x w' ⟨v, M', rfl, g1, g2, g3⟩
    exact ⟨v, M', rfl, g1.has hc.2, dEqb_eq _ _ hc.1 ▸ g2, g3⟩
  · rw [hen] at h1; cases h1

/-- A call without arguments that tells a letter, in whatever memory. -/
def PurOk (P : Program) (g : FuncId) (v : Value) : Prop := enters P g = true ∧ litOk v ∧ ∀ W, Calls P g #[] W fun e W' => e = .returned v ∧ ∃ M', Ext (Mem.none fun _ => Option.none) W M' W'

def pur : List (FuncId × Value) → CF
  | [], _, _, _ => none
  | (k, v) :: r, g, args, h => bif Nat.beq g k && args.isEmpty then some (.lit v, h) else pur r g args h

end Go.Ev
