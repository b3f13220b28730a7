/-
  Code; ranges over functions; functions; the engine.
-/
import Derived.Test.YtgpmcnakeeahbabGreatEvG
namespace Go.Ev
open Go.Aw (litOk tiOf TIs tiOf_spec WF enters callFunc_run callsIn_WF wpIn_loop_rel)

inductive EX where
  | normal
  | exit (id : Nat)
  | ret

def EX.toExit : EX → Exit
  | .normal => .normal
  | .exit id => .exit id
  | .ret => .ret

def EX.jump : EX → Option Code
  | .normal => none
  | .exit id => some (.exit id)
  | .ret => some .ret

def EX.isN : EX → Bool
  | .normal => true
  | _ => false

/-- What a round has left to be done. -/
def jumpE : Option Code → Option EX
  | none => some .normal
  | some .ret => some .ret
  | some (.exit id) => some (.exit id)
  | _ => none

def notBusy : LoopState → Bool
  | .busy => false
  | _ => true

def isReady : LoopState → Bool
  | .ready => true
  | _ => false

/-- The record of a range over a function. -/
def enterE (rl : Option Nat) (ps : Array Tmp) (assign body : Code) (s : St) : Option (Nat × H × List DF) :=
  match rl with
  | none => some (s.h.nx + 1, { hp := (s.h.hp.set s.h.nx .dfr).set (s.h.nx + 1) (.loop { n := s.n, tm := s.tm, ps := ps, assign := assign, body := body, st := .ready, pend := none, df := s.h.nx }), nx := s.h.nx + 2 }, .mark s.h.nx :: s.df)
  | some l => (match s.h.hp.get l with
    | some (.loop L) => some (s.h.nx, { hp := s.h.hp.set s.h.nx (.loop { n := s.n, tm := s.tm, ps := ps, assign := assign, body := body, st := .ready, pend := none, df := L.df }), nx := s.h.nx + 1 }, s.df)
    | _ => none)

def loopE (P : Program) (cf : CF) (rl : Option Nat) (g : Operand) (ps : Array Tmp) (assign body : Code) (s : St) : Option (EX × St) :=
  match enterE rl ps assign body s with
  | some (ll, h1, df) => (match valT s.tm g with
    | .fn (.func gg) first caps => (match bif enters P gg then cf gg (first ++ (.yl ll :: caps)) h1 else none with
      | some (_, h2) => (match h2.hp.get ll with
        | some (.loop L) => bif notBusy L.st then (match jumpE L.pend with
            | some x => some (x, { s with h := { h2 with hp := h2.hp.set ll (.loop { L with st := .exhausted }) }, df := df })
            | none => none) else none
        | _ => none)
      | none => none)
    | _ => none)
  | none => none

def evalC (P : Program) (cf : CF) (ye : YE) (dr : Array Oper → St → Option St) (rl : Option Nat) : Nat → Code → St → Option (EX × St)
  | 0, _, _ => none
  | n + 1, .skip, s => some (.normal, s)
  | n + 1, .label _, s => some (.normal, s)
  | n + 1, .exit id, s => some (.exit id, s)
  | n + 1, .ret, s => some (.ret, s)
  | n + 1, .seq a b, s => (match evalC P cf ye dr rl n a s with
    | some (.normal, s') => evalC P cf ye dr rl n b s'
    | x => x)
  | n + 1, .block id c, s => (match evalC P cf ye dr rl n c s with
    | some (.exit j, s') => some (bif Nat.beq j id then .normal else .exit j, s')
    | x => x)
  | n + 1, .loop c, s => (match evalC P cf ye dr rl n c s with
    | some (.normal, s') => evalC P cf ye dr rl n (.loop c) s'
    | x => x)
  | n + 1, .cond c x y, s => (match valT s.tm c with
    | .lit (.bool b) => bif b then evalC P cf ye dr rl n x s else evalC P cf ye dr rl n y s
    | _ => none)
  | n + 1, .region _ ops draw, s => (match (bif draw then dr ops s else evalR P cf ye rl.isNone (fun j => (ops[j]?).bind (·.dst)) ops.toList s) with
    | some s' => some (.normal, s')
    | none => none)
  | n + 1, .rangeFunc g ps assign body, s => loopE P cf rl g ps assign body s
  | _ + 1, _, _ => none

def RelR (M : Mem) : Option Nat → Option Nat → Prop
  | none, none => True
  | some l, some b => M.at l b
  | _, _ => False

theorem RelR.mono {M M' : Mem} (h : M.le M') {a b : Option Nat} (hr : RelR M a b) : RelR M' a b := by
  cases a <;> cases b <;> simp only [RelR] at hr ⊢
  exact hr.mono h

/-- What is told of regions that draw their order is so. -/
def SD (P : Program) (dr : Array Oper → St → Option St) : Prop := ∀ ops s s', dr ops s = some s' → ∀ id r M w a Q, Rep M s w a →
  (∀ M' w' a', Rep M' s' w' a' → Ext M w M' w' → Q .normal a' w') → (Code.region id ops true).wpIn (WF r) 0 P Q a w

theorem enter_ok {P : Program} {rl r : Option Nat} {ps : Array Tmp} {assign body : Code} {s : St} {ll : Nat} {h1 : H} {df : List DF} (he : enterE rl ps assign body s = some (ll, h1, df)) {M : Mem} {w : World} {a : Act} (hrl : RelR M rl r) (hr : Rep M s w a) (fn : FuncId) :
    ∃ l mark w1 M1, (Instr.enterLoop fn a.tmps ps assign body r).run P w = .ok (l, mark) w1 ∧ RH M1 h1 w1 ∧ Ext M w M1 w1 ∧ M1.at ll l ∧ Rep M1 { s with h := h1, df := df } w1 { a with defers := mark ++ a.defers } := by
  unfold enterE at he
  split at he
  · -- an outermost loop
    cases he
    cases r with
    | some _ => exact hrl.elim
    | none =>
    have hd : ∀ M' : Mem, RB M' (w.alloc (.deferred (some []))) .dfr w.heap.size 0 := fun M' => Aw.halloc_new w _
    obtain ⟨g1, g2⟩ := hr.h.fresh (w' := w.alloc (.deferred (some []))) .dfr w.heap.size 0 rfl rfl rfl (by simp) (fun n hn => Aw.halloc_old w _ n hn) (by simp) (fun _ => hd _)
    have hat : (M.set s.h.nx (.blk w.heap.size 0) (s.h.nx + 1)).at s.h.nx w.heap.size := ⟨by simp [Mem.set], fun b' c' e => by simp [Mem.set] at e; exact e.1.symm, by simp [Mem.set]⟩
    have hsz : (w.alloc (.deferred (some []))).heap.size = w.heap.size + 1 := by simp
    obtain ⟨k1, k2⟩ := g1.fresh (w' := (w.alloc (.deferred (some []))).alloc (.loop { state := .ready, pending := none, fn, tmps := a.tmps, params := ps, assign, body, defers := w.heap.size }))
      (.loop { n := s.n, tm := s.tm, ps := ps, assign := assign, body := body, st := .ready, pend := none, df := s.h.nx }) (w.heap.size + 1) 0 rfl rfl rfl (by simp) (fun n hn => Aw.halloc_old _ _ n hn) (by simp)
      (fun hle => ⟨fn, a.tmps, w.heap.size, by have := Aw.halloc_new (w.alloc (.deferred (some []))) (.loop { state := .ready, pending := none, fn, tmps := a.tmps, params := ps, assign, body, defers := w.heap.size }); rw [hsz] at this; exact this, (hr.t.mono g2.le).mono hle, hat.mono hle⟩)
    refine ⟨w.heap.size + 1, _, _, _, run_enterLoop_outer fn a.tmps ps assign body, k1, g2.trans k2, ⟨by simp [Mem.set], fun b' c' e => by simp [Mem.set] at e; exact e.1.symm, by simp [Mem.set]⟩, k1, (hr.t.mono g2.le).mono k2.le, ?_⟩
    exact ((hr.df.mono g2.le).mono k2.le).cons ⟨w.heap.size, rfl, hat.mono k2.le⟩
  · rename_i l0
    split at he
    case h_2 => cases he
    rename_i L hL
    cases he
    cases r with
    | none => exact hrl.elim
    | some b0 =>
    obtain ⟨c, hl, fn0, ts0, dv, q1, q2, q3⟩ := hr.h.look hL hrl
    obtain ⟨k1, k2⟩ := hr.h.fresh (w' := w.alloc (.loop { state := .ready, pending := none, fn, tmps := a.tmps, params := ps, assign, body, defers := dv }))
      (.loop { n := s.n, tm := s.tm, ps := ps, assign := assign, body := body, st := .ready, pend := none, df := L.df }) w.heap.size 0 rfl rfl rfl (by simp) (fun n hn => Aw.halloc_old _ _ n hn) (by simp)
      (fun hle => ⟨fn, a.tmps, dv, Aw.halloc_new _ _, hr.t.mono hle, q3.mono hle⟩)
    refine ⟨w.heap.size, _, _, _, run_enterLoop_inner q1 fn a.tmps ps assign body, k1, k2, ⟨by simp [Mem.set], fun b' c' e => by simp [Mem.set] at e; exact e.1.symm, by simp [Mem.set]⟩, k1, hr.t.mono k2.le, ?_⟩
    exact hr.df.mono k2.le

theorem jump_ok {P : Program} {r : Option Nat} {p : Option Code} {x : EX} (h : jumpE p = some x) {Q : Exit → Act → World → Prop} {a : Act} {w : World} (hq : Q x.toExit a w) :
    (match (generalizing := false) p with | none => Q .normal a w | some c => c.wpIn (WF r) 0 P Q a w) := by
  unfold jumpE at h
  split at h
  · cases h; exact hq
  · cases h; exact wpIn_ret hq
  · cases h; exact wpIn_exit hq
  · cases h

theorem loop_ok {P : Program} {cf : CF} (hcf : SF P cf) {rl r : Option Nat} {g : Operand} {ps : Array Tmp} {assign body : Code} {s s' : St} {x : EX} (he : loopE P cf rl g ps assign body s = some (x, s')) {M : Mem} {w : World} {a : Act} (hrl : RelR M rl r) (hr : Rep M s w a)
    {Q : Exit → Act → World → Prop} (hK : ∀ M' w' a', Rep M' s' w' a' → Ext M w M' w' → Q x.toExit a' w') : (Code.rangeFunc g ps assign body).wpIn (WF r) 0 P Q a w := by
  unfold loopE at he
  split at he
  case h_2 => cases he
  rename_i ll h1 df hen
  split at he
  case h_2 => cases he
  rename_i gg first caps hfd
  split at he
  case h_2 => cases he
  rename_i d2 h2 hcall
  split at he
  case h_2 => cases he
  rename_i L hL
  obtain ⟨hnb, he⟩ := bif_some he
  split at he
  case h_2 => cases he
  rename_i x' hx
  cases he
  obtain ⟨hent, hcall⟩ := bif_some hcall
  have hcalls : ∀ M w vs, RH M h1 w → argsOk M (first ++ (.yl ll :: caps)) vs → Calls P gg vs w (Post M w d2 h2) := by
    rcases hcf _ _ _ _ _ hcall with ⟨_, hc⟩ | ⟨hc, _⟩
    · exact hc
    · rw [hent] at hc; cases hc
  have hg := hr.val g
  rw [hfd] at hg
  refine wpIn_rangeFunc fun fn _ => ?_
  obtain ⟨l, mark, w1, M1, e1, e2, e3, e4, e5⟩ := enter_ok (P := P) hen hrl hr fn
  generalize hv : a.eval g = fv at hg
  cases hg with
  | fn _ _ _ v1 v2 q1 q2 r1 r2 =>
  have hargs : argsOk M1 (first ++ (.yl ll :: caps)) (v1 ++ (#[.func (.yield l) #[] #[]] ++ v2)) := by
    refine argsOk_append ⟨q1, fun i d hi => (r1 i d hi).mono e3.le⟩ (argsOk_append (a := [.yl ll]) ⟨rfl, fun i d hi => ?_⟩ ⟨q2, fun i d hi => (r2 i d hi).mono e3.le⟩)
    cases i with
    | zero => simp at hi; subst hi; exact .yl ll l e4
    | succ i => simp at hi
  refine ⟨l, mark, w1, { target := .fn (.func gg) v2, args := v1 ++ #[.func (.yield l) #[] #[]] }, w1, gg, v1 ++ #[.func (.yield l) #[] #[]] ++ v2, w1, e1, ?_, fun _ _ => trivial, ?_, fun h => by simp [WF] at h, callsIn_WF ((hcalls M1 w1 _ e2 (by rw [Array.append_assoc]; exact hargs)).mono ?_)⟩
  · have ha : (rangeCall g l).args.map a.eval = #[.func (.yield l) #[] #[]] := by simp [Act.eval]
    simp only [resolve, ha, hv, Deferred.ofValue, Sem.run_pure]
  · exact callFunc_run hent _ w1
  · rintro e w2 ⟨v, M2, rfl, f1, f2, f3⟩
    have hat2 := e4.mono f3.le
    obtain ⟨c, hl, fn0, ts0, dv, p1, p2, p3⟩ := f1.look hL hat2
    have hlt : l < w2.heap.size := (Array.getElem?_eq_some_iff.1 p1).1
    have hnb' : L.st ≠ .busy := fun q => by rw [q] at hnb; cases hnb
    refine ⟨L.pend, _, run_endLoop p1 hnb', ?_⟩
    obtain ⟨k1, k2⟩ := f1.write (w' := w2.putObj l (.loop { state := .exhausted, pending := L.pend, fn := fn0, tmps := ts0, params := L.ps, assign := L.assign, body := L.body, defers := dv })) hl (.loop { L with st := .exhausted }) rfl rfl rfl (by simp [World.putObj])
      (fun b hb => World.putObj_heap_other hb) ⟨fn0, ts0, dv, World.putObj_heap_same hlt, p2, p3⟩
    have hq := hK M2 _ _ ((e5.mono (f3.le) f1).mono k2.le k1) ((e3.trans f3).trans k2)
    exact jump_ok hx hq

theorem evalC_ok {P : Program} {cf : CF} {ye : YE} {dr : Array Oper → St → Option St} (hcf : SF P cf) (hye : SY P ye) (hdr : SD P dr) {rl : Option Nat} (n : Nat) : ∀ (c : Code) (s : St) (x : EX) (s' : St), evalC P cf ye dr rl n c s = some (x, s') →
    ∀ (r : Option Nat) (M : Mem) (w : World) (a : Act) (Q : Exit → Act → World → Prop), RelR M rl r → Rep M s w a → (∀ M' w' a', Rep M' s' w' a' → Ext M w M' w' → Q x.toExit a' w') → c.wpIn (WF r) 0 P Q a w := by
  induction n using Nat.strongRecOn with
  | _ n ih =>
  intro c s x s' he r M w a Q hrl hr hK
  cases n with
  | zero => simp [evalC] at he
  | succ n =>
  cases c <;> simp only [evalC, reduceCtorEq] at he
  case skip => cases he; exact wpIn_skip (hK M w a hr (Ext.refl M w))
  case label l => cases he; exact wpIn_label (hK M w a hr (Ext.refl M w))
  case exit id => cases he; exact wpIn_exit (hK M w a hr (Ext.refl M w))
  case ret => cases he; exact wpIn_ret (hK M w a hr (Ext.refl M w))
  case seq c1 c2 =>
    refine wpIn_seq ?_
    cases h1 : evalC P cf ye dr rl n c1 s with
    | none => rw [h1] at he; cases he
    | some p =>
      obtain ⟨y, s1⟩ := p
      rw [h1] at he
      cases y with
      | normal =>
        refine ih n (by omega) c1 s .normal s1 h1 r M w a _ hrl hr fun M1 w1 a1 g1 g2 => ?_
        exact ih n (by omega) c2 s1 x s' he r M1 w1 a1 Q (hrl.mono g2.le) g1 fun M2 w2 a2 k1 k2 => hK M2 w2 a2 k1 (g2.trans k2)
      | exit id => cases he; exact ih n (by omega) c1 s _ _ h1 r M w a _ hrl hr fun M1 w1 a1 g1 g2 => hK M1 w1 a1 g1 g2
      | ret => cases he; exact ih n (by omega) c1 s _ _ h1 r M w a _ hrl hr fun M1 w1 a1 g1 g2 => hK M1 w1 a1 g1 g2
  case block id c1 =>
    refine wpIn_block ?_
    cases h1 : evalC P cf ye dr rl n c1 s with
    | none => rw [h1] at he; cases he
    | some p =>
      obtain ⟨y, s1⟩ := p
      rw [h1] at he
      refine ih n (by omega) c1 s y s1 h1 r M w a _ hrl hr fun M1 w1 a1 g1 g2 => ?_
      cases y with
      | normal => cases he; exact hK M1 w1 a1 g1 g2
      | ret => cases he; exact hK M1 w1 a1 g1 g2
      | exit j =>
        simp only [Option.some.injEq, Prod.mk.injEq] at he
        obtain ⟨rfl, rfl⟩ := he
        have := hK M1 w1 a1 g1 g2
        simp only [EX.toExit, Exit.inBlock]
        split
        · rename_i hj
          subst hj
          simpa [EX.toExit] using this
        · rename_i hj
          have : Nat.beq j id = false := by
            cases hb : Nat.beq j id with
            | true => exact absurd (Nat.eq_of_beq_eq_true hb) hj
            | false => rfl
          rw [this] at hK
          exact hK M1 w1 a1 g1 g2
  case loop c1 =>
    refine wpIn_loop_rel (fun j a1 w1 => j ≤ n ∧ ∃ M1 s1, Rep M1 s1 w1 a1 ∧ Ext M w M1 w1 ∧ evalC P cf ye dr rl (j + 1) (.loop c1) s1 = some (x, s')) ?_ n a w ⟨Nat.le_refl _, M, s, hr, Ext.refl M w, by simpa only [evalC] using he⟩
    rintro j a1 w1 ⟨hj, M1, s1, k1, k2, k3⟩
    simp only [evalC] at k3
    cases h1 : evalC P cf ye dr rl j c1 s1 with
    | none => rw [h1] at k3; cases k3
    | some p =>
      obtain ⟨y, s2⟩ := p
      rw [h1] at k3
      refine ih j (by omega) c1 s1 y s2 h1 r M1 w1 a1 _ (hrl.mono k2.le) k1 fun M2 w2 a2 g1 g2 => ?_
      cases y with
      | normal =>
        cases j with
        | zero => simp [evalC] at k3
        | succ j => exact ⟨j, Nat.lt_succ_self j, by omega, M2, s2, g1, k2.trans g2, k3⟩
      | exit id => cases k3; exact hK M2 w2 a2 g1 (k2.trans g2)
      | ret => cases k3; exact hK M2 w2 a2 g1 (k2.trans g2)
  case cond c0 c1 c2 =>
    split at he
    case h_2 => cases he
    rename_i b hb
    have hv := hr.val c0
    rw [hb] at hv
    have hv := hv.litE
    cases b with
    | true => exact wpIn_cond_true hv (ih n (by omega) c1 s x s' he r M w a Q hrl hr hK)
    | false => exact wpIn_cond_false hv (ih n (by omega) c2 s x s' he r M w a Q hrl hr hK)
  case region id ops draw =>
    split at he
    case h_2 => cases he
    rename_i s1 h1
    cases he
    cases draw with
    | true => exact hdr ops s _ h1 id r M w a Q hr hK
    | false =>
      refine region_ok hcf hye (top := rl.isNone) (fun ht => ?_) hr h1 hK
      cases rl with
      | some l => cases ht
      | none => cases r with
        | none => rfl
        | some b => exact hrl.elim
  case rangeFunc g ps assign body => exact loop_ok hcf he hrl hr hK

/-! ### Functions -/
def argsT : Nat → List D → T D → T D
  | _, [], t => t
  | k, d :: r, t => argsT (k + 1) r (t.set k d)

theorem get_argsT : ∀ (l : List D) (k : Nat) (t0 : T D) (t : Nat) (d : D), (argsT k l t0).get t = some d → (k ≤ t ∧ l[t - k]? = some d) ∨ t0.get t = some d
  | [], k, t0, t, d, h => .inr h
  | e :: r, k, t0, t, d, h => by
    rcases get_argsT r (k + 1) (t0.set k e) t d h with ⟨h1, h2⟩ | h1
    · left
      refine ⟨by omega, ?_⟩
      rw [show t - k = (t - (k + 1)) + 1 by omega]
      simpa using h2
    · rw [T.get_set] at h1
      by_cases hk : k = t
      · subst hk
        rw [if_pos rfl] at h1
        cases h1
        exact .inl ⟨Nat.le_refl _, by simp⟩
      · rw [if_neg hk] at h1
        exact .inr h1

def evalF (P : Program) (ex : CF) (cf : CF) (ye : YE) (dr : Array Oper → St → Option St) (N : Nat) : CF := fun g args h =>
  bif enters P g then (match P.funcs[g]? with
    | some fn => (match fn.body with
      | some c => bif Nat.ble args.length fn.ntmps then (match evalC P cf ye dr none N c { n := fn.ntmps, tm := argsT 0 args .e, h := h, df := [] } with
        | some (.exit _, _) => none
        | some (_, s) => (match takeE P ex s.df s.h with
          | some hend => (match (resE P { n := fn.ntmps, tm := s.tm, h := hend, df := [] } fn.results.toList).map packD with
            | some d => some (d, hend)
            | none => none)
          | none => none)
        | none => none) else none
      | none => none)
    | none => none) else ex g args h

theorem resE_n {P : Program} (n m : Nat) (tm : T D) (h : H) : ∀ l : List ResultVar, resE P { n := n, tm := tm, h := h, df := [] } l = resE P { n := m, tm := tm, h := h, df := [] } l
  | [] => rfl
  | .tmp t :: r => by simp only [resE, resE_n n m tm h r]
  | .cell t ty :: r => by simp only [resE, resE_n n m tm h r]

theorem evalF_ok {P : Program} {ex : CF} {cf : CF} {ye : YE} {dr : Array Oper → St → Option St} (hex : SX P ex) (hcf : SF P cf) (hye : SY P ye) (hdr : SD P dr) (N : Nat) : SF P (evalF P ex cf ye dr N) := by
  intro g args h d h' he
  unfold evalF at he
  cases hen : enters P g with
  | false =>
    rw [hen] at he
    exact .inr ⟨rfl, hex.1 _ _ _ _ _ he hen⟩
  | true =>
  rw [hen] at he
  simp only [cond_true] at he
  split at he
  case h_2 => cases he
  rename_i fn hfn
  split at he
  case h_2 => cases he
  rename_i c hb
  obtain ⟨hle, he⟩ := bif_some he
  simp only [Nat.ble_eq] at hle
  refine .inl ⟨rfl, fun M w vs hr hargs => (callsIn_wide (n := 0)).1 (callsIn_of_wp_marks (F := WF none) hfn hb trivial ?_)⟩
  have hrep : Rep M { n := fn.ntmps, tm := argsT 0 args .e, h := h, df := [] } w { tmps := vs ++ Array.replicate (fn.ntmps - vs.size) undef, defers := [] } := by
    refine ⟨hr, ⟨by simp [hargs.1]; omega, fun t e ht => ?_⟩, .nil⟩
    rcases get_argsT args 0 .e t e ht with ⟨_, h2⟩ | h2
    · simp only [Nat.sub_zero] at h2
      have hlt : t < vs.size := by rw [hargs.1]; exact (List.getElem?_eq_some_iff.1 h2).1
      have := hargs.2 t e h2
      rwa [show (vs ++ Array.replicate (fn.ntmps - vs.size) undef).getD t undef = vs.getD t undef by
        simp only [Array.getD_eq_getD_getElem?]
        rw [Array.getElem?_append_left hlt]]
    · simp [T.get] at h2
  have fin : ∀ s, (match takeE P ex s.df s.h with
          | some hend => (match (resE P { n := fn.ntmps, tm := s.tm, h := hend, df := [] } fn.results.toList).map packD with
            | some d => some (d, hend)
            | none => none)
          | none => none) = some (d, h') → ∀ M' w' a', Rep M' s w' a' → Ext M w M' w' → LeavesInM (WF none) 0 P fn a'.tmps (Post M w d h') a'.defers .returning w' := by
    intro s hs M' w' a' g1 g2
    split at hs
    case h_2 => cases hs
    rename_i hend ht
    split at hs
    case h_2 => cases hs
    rename_i d1 hres
    cases hs
    exact leaves_ok hex.2 (n := s.n) (M0 := M) (w0 := w) g1.t s.df _ s.h w' g1.h g2 g1.df ht (by rw [resE_n s.n fn.ntmps]; exact hres) (fun v w2 k1 k2 k3 => ⟨v, M', rfl, k1, k2, k3⟩)
  cases hc : evalC P cf ye dr none N c { n := fn.ntmps, tm := argsT 0 args .e, h := h, df := [] } with
  | none => rw [hc] at he; cases he
  | some p =>
    obtain ⟨x, s⟩ := p
    rw [hc] at he
    refine evalC_ok hcf hye hdr N c _ x s hc none M w _ _ trivial hrep fun M' w' a' g1 g2 => ?_
    cases x with
    | exit id => cases he
    | normal => exact fin s he M' w' a' g1 g2
    | ret => exact fin s he M' w' a' g1 g2
end Go.Ev
