/-
  Rounds; the engine.
-/
import Derived.Test.YtgpmcnakeeahbabGreatEvH
import Derived.Lib.Bytealg
namespace Go.Ev
open Go.Aw (litOk tiOf TIs tiOf_spec WF enters)

def setAll : List Tmp → List D → T D → T D
  | t :: ts, d :: ds, m => setAll ts ds (m.set t d)
  | _, _, m => m

theorem setAll_ok {M : Mem} {n : Nat} : ∀ (ts : List Tmp) (ds : List D) (vs : List Value) (m : T D) (tmps : Array Value), RT M n m tmps → ds.length = vs.length → (∀ (i : Nat) d, ds[i]? = some d → R M d (vs.getD i undef)) → ts.all (fun t => Nat.blt t n) = true →
    RT M n (setAll ts ds m) ((ts.zip vs).foldl (fun tmps (p : Tmp × Value) => tmps.setIfInBounds p.1 p.2) tmps)
  | [], ds, vs, m, tmps, h, _, _, _ => by simpa [setAll] using h
  | t :: ts, [], [], m, tmps, h, _, _, _ => by simpa [setAll] using h
  | t :: ts, [], _ :: _, m, tmps, h, hl, _, _ => by simp at hl
  | t :: ts, _ :: _, [], m, tmps, h, hl, _, _ => by simp at hl
  | t :: ts, d :: ds, v :: vs, m, tmps, h, hl, hr, ht => by
    simp only [List.all_cons, Bool.and_eq_true, Nat.blt_eq] at ht
    simp only [setAll, List.zip_cons_cons, List.foldl_cons]
    refine setAll_ok ts ds vs _ _ ⟨by simpa using h.1, fun u e hu => ?_⟩ (by simpa using hl) (fun i d hi => by have := hr (i + 1) d (by simpa using hi); simpa using this) ht.2
    rw [T.get_set] at hu
    by_cases hk : t = u
    · subst hk
      rw [if_pos rfl] at hu
      cases hu
      have := hr 0 d rfl
      have hlt : t < tmps.size := by rw [h.1]; exact ht.1
      simpa [Array.getD, hlt] using this
    · rw [if_neg hk] at hu
      have := h.2 u e hu
      rwa [show (tmps.setIfInBounds t v).getD u undef = tmps.getD u undef by simp [Array.getD_eq_getD_getElem?, Array.getElem?_setIfInBounds_ne hk]]

def evalY (P : Program) (cf : CF) (ye : YE) (dr : Array Oper → St → Option St) (N : Nat) : YE := fun l args h =>
  match h.hp.get l with
  | some (.loop L) => bif isReady L.st && (Nat.beq args.length L.ps.size && L.ps.toList.all (fun t => Nat.blt t L.n)) then
      (match evalC P cf ye dr (some l) N L.assign { n := L.n, tm := setAll L.ps.toList args L.tm, h := h, df := [] } with
      | some (.normal, s1) => (match s1.h.hp.get l with
        | some (.loop L1) => bif isReady L1.st then
            (match evalC P cf ye dr (some l) N L.body { s1 with h := { s1.h with hp := s1.h.hp.set l (.loop { L1 with st := .busy }) } } with
            | some (x, s3) => (match s3.h.hp.get l with
              | some (.loop L3) => some (.lit (.bool x.isN), { s3.h with hp := s3.h.hp.set l (.loop { L3 with st := bif x.isN then .ready else .done, pend := x.jump }) })
              | _ => none)
            | none => none) else none
        | _ => none)
      | _ => none) else none
  | _ => none

theorem ready_eq {st : LoopState} (h : isReady st = true) : st = .ready := by cases st <;> first | rfl | cases h

theorem evalY_ok {P : Program} {cf : CF} {ye : YE} {dr : Array Oper → St → Option St} (hcf : SF P cf) (hye : SY P ye) (hdr : SD P dr) (N : Nat) : SY P (evalY P cf ye dr N) := by
  intro l args h d h' he M w vs b hr hat hargs
  unfold evalY at he
  split at he
  case h_2 => cases he
  rename_i L hL
  obtain ⟨hc, he⟩ := bif_some he
  simp only [Bool.and_eq_true] at hc
  obtain ⟨hrd, hlen, hps⟩ := hc
  have hrd := ready_eq hrd
  have hlen := Nat.eq_of_beq_eq_true hlen
  obtain ⟨c, hl, fn, ts, dv, q1, q2, q3⟩ := hr.look hL hat
  split at he
  case h_2 => cases he
  rename_i s1 h1
  split at he
  case h_2 => cases he
  rename_i L1 hL1
  obtain ⟨hrd1, he⟩ := bif_some he
  have hrd1 := ready_eq hrd1
  split at he
  case h_2 => cases he
  rename_i x s3 h3
  split at he
  case h_2 => cases he
  rename_i L3 hL3
  cases he
  refine ⟨fn, _, L.assign, L.body, run_yield q1 (by rw [hargs.1, hlen]), fun r => roundIn_of_wpIn (F := WF r) trivial ?_⟩
  show L.assign.wpIn (WF (some b)) 0 P _ _ w
  have hRT : RT M L.n (setAll L.ps.toList args L.tm) ((L.ps.zip vs).foldl (fun tmps (p : Tmp × Value) => tmps.setIfInBounds p.1 p.2) ts) := by
    have := setAll_ok L.ps.toList args vs.toList L.tm ts q2 (by simpa using hargs.1.symm) (fun i d hi => by have := hargs.2 i d hi; rwa [show vs.toList.getD i undef = vs.getD i undef from Aw.getD_list vs i]) hps
    rwa [← Array.toList_zip, Array.foldl_toList] at this
  refine evalC_ok hcf hye hdr N L.assign _ .normal s1 h1 (some b) M w _ _ hat ⟨hr, hRT, .nil⟩ fun M1 w1 a1 g1 g2 => ?_
  obtain ⟨c1, hl1, fn1, ts1, dv1, p1, p2, p3⟩ := g1.h.look hL1 (hat.mono g2.le)
  have hlt1 : b < w1.heap.size := (Array.getElem?_eq_some_iff.1 p1).1
  refine ⟨_, run_beginRound p1 hrd1, ?_⟩
  obtain ⟨k1, k2⟩ := g1.h.write (w' := w1.putObj b (.loop { state := .busy, pending := L1.pend, fn := fn1, tmps := ts1, params := L1.ps, assign := L1.assign, body := L1.body, defers := dv1 })) hl1 (.loop { L1 with st := .busy }) rfl rfl rfl (by simp [World.putObj])
    (fun m hm => World.putObj_heap_other hm) ⟨fn1, ts1, dv1, World.putObj_heap_same hlt1, p2, p3⟩
  refine evalC_ok hcf hye hdr N L.body _ x s3 h3 (some b) M1 _ a1 _ (hat.mono g2.le) (g1.mono k2.le k1) fun M3 w3 a3 g3 g4 => ?_
  obtain ⟨c3, hl3, fn3, ts3, dv3, u1, u2, u3⟩ := g3.h.look hL3 ((hat.mono g2.le).mono g4.le)
  have hlt3 : b < w3.heap.size := (Array.getElem?_eq_some_iff.1 u1).1
  have fin : ∀ jump : Option Code, jump = x.jump → ∃ v w', (Instr.endRound b jump).run P w3 = .ok v w' ∧ Post M w (.lit (.bool x.isN)) { s3.h with hp := s3.h.hp.set l (.loop { L3 with st := bif x.isN then .ready else .done, pend := x.jump }) } (.returned v) w' := by
    intro jump hj
    subst hj
    refine ⟨_, _, run_endRound x.jump u1, ?_⟩
    obtain ⟨y1, y2⟩ := g3.h.write (w' := w3.putObj b (.loop { state := if x.jump.isNone then .ready else .done, pending := x.jump, fn := fn3, tmps := ts3, params := L3.ps, assign := L3.assign, body := L3.body, defers := dv3 })) hl3
      (.loop { L3 with st := bif x.isN then .ready else .done, pend := x.jump }) rfl rfl rfl (by simp [World.putObj])
      (fun m hm => World.putObj_heap_other hm) ⟨fn3, ts3, dv3, by
        rw [World.putObj_heap_same hlt3]
        cases x <;> rfl, u2, u3⟩
    refine ⟨_, M3, rfl, y1, ?_, ((g2.trans k2).trans g4).trans y2⟩
    cases x <;> exact .lit _ trivial
  cases x with
  | normal => exact fin none rfl
  | exit id => exact fin _ rfl
  | ret => exact fin _ rfl

/-! ### The engine -/
def eng (P : Program) (ex : CF) (dr : CF → YE → Array Oper → St → Option St) (N : Nat) : Nat → CF × YE
  | 0 => (fun _ _ _ => none, fun _ _ _ => none)
  | n + 1 => (evalF P ex (eng P ex dr N n).1 (eng P ex dr N n).2 (dr (eng P ex dr N n).1 (eng P ex dr N n).2) N, evalY P (eng P ex dr N n).1 (eng P ex dr N n).2 (dr (eng P ex dr N n).1 (eng P ex dr N n).2) N)

theorem eng_ok {P : Program} {ex : CF} (hex : SX P ex) {dr : CF → YE → Array Oper → St → Option St} (hdr : ∀ cf ye, SF P cf → SY P ye → SD P (dr cf ye)) (N : Nat) : ∀ n, SF P (eng P ex dr N n).1 ∧ SY P (eng P ex dr N n).2
  | 0 => ⟨fun _ _ _ _ _ h => (by cases h), fun _ _ _ _ _ h => (by cases h)⟩
  | n + 1 => by
    obtain ⟨h1, h2⟩ := eng_ok hex hdr N n
    exact ⟨evalF_ok hex h1 h2 (hdr _ _ h1 h2) N, evalY_ok h1 h2 (hdr _ _ h1 h2) N⟩

/-! ### The model's own functions -/
inductive XK where
  | count | indexByte | noEscape | quiet (n : Nat)
  deriving DecidableEq

def exK : XK → List D → Option D
  | .count, [.lit (.string s), .lit (.int .u8 c)] => some (.lit (.int .i64 (Lib.countByte s.data.toList c.toNat.toUInt8)))
  | .indexByte, [.lit (.string s), .lit (.int .u8 c)] => some (.lit (.int .i64 (Lib.indexByte s.data.toList c.toNat.toUInt8)))
  | .noEscape, [x] => some x
  | .quiet n, args => bif Nat.beq args.length n then some .un else none
  | _, _ => none

def XK.fn : XK → Array Value → Sem Value
  | .count => Extern.BytealgCount.count
  | .indexByte => Extern.BytealgIndexByte.indexByte
  | .noEscape => Extern.AbiNoEscape.same
  | .quiet _ => fun _ => pure undef

def exT (l : List (FuncId × XK)) : CF := fun g args h => match l.lookup g with
  | some k => (exK k args).map (·, h)
  | none => none

def ExtOk (P : Program) (g : FuncId) (k : XK) : Prop := match k with
  | .quiet n => enters P g = true ∧ ∀ vs w, vs.size = n → Quiet P g vs w
  | k => ∃ fn, P.funcs[g]? = some fn ∧ (fn.name == "runtime.NumGoroutine") = false ∧ fn.body.isNone = true ∧ (Extern.findNext fn).isNone = true ∧ Extern.find fn = some k.fn
theorem args1 {M : Mem} {x : D} {vs : Array Value} (h : argsOk M [x] vs) : ∃ v, vs = #[v] ∧ R M x v := by
  obtain ⟨h1, h2⟩ := h
  have h0 := h2 0 x rfl
  refine ⟨vs.getD 0 undef, ?_, h0⟩
  apply Array.ext
  · simpa using h1
  · intro i hi hj
    have : i = 0 := by simp at h1; omega
    subst this
    simp [Array.getD, hi]

theorem args2 {M : Mem} {x y : D} {vs : Array Value} (h : argsOk M [x, y] vs) : ∃ v u, vs = #[v, u] ∧ R M x v ∧ R M y u := by
  obtain ⟨h1, h2⟩ := h
  have h0 := h2 0 x rfl
  have h3 := h2 1 y rfl
  refine ⟨vs.getD 0 undef, vs.getD 1 undef, ?_, h0, h3⟩
  apply Array.ext
  · simpa using h1
  · intro i hi hj
    have : i = 0 ∨ i = 1 := by simp at h1; omega
    rcases this with rfl | rfl <;> simp [Array.getD, hi]

theorem exK_ok {P : Program} {M : Mem} {k : XK} {args : List D} {d : D} (h : exK k args = some d) {vs : Array Value} (ha : argsOk M args vs) (w : World) : ∃ v, (k.fn vs).run P w = .ok v w ∧ R M d v := by
  unfold exK at h
  split at h
  · cases h
    obtain ⟨v, u, rfl, h1, h2⟩ := args2 ha
    cases h1
    cases h2
    refine ⟨_, ?_, .lit _ trivial⟩
    simp only [XK.fn]
    exact Lib.run_countString _ _ w
  · cases h
    obtain ⟨v, u, rfl, h1, h2⟩ := args2 ha
    cases h1
    cases h2
    refine ⟨_, ?_, .lit _ trivial⟩
    simp only [XK.fn]
    exact Lib.run_indexByteString _ _ w
  · cases h
    obtain ⟨v, rfl, h1⟩ := args1 ha
    exact ⟨v, rfl, h1⟩
  · obtain ⟨_, h⟩ := bif_some h
    cases h
    exact ⟨undef, rfl, .un⟩
  · cases h

theorem exT_find {l : List (FuncId × XK)} {g : FuncId} {k : XK} (hk : l.lookup g = some k) : (g, k) ∈ l := by
  induction l with
  | nil => simp at hk
  | cons p r ih =>
    obtain ⟨a, b⟩ := p
    simp only [List.lookup] at hk
    split at hk
    · rename_i hb
      cases hk
      have : g = a := by simpa using hb
      subst this
      simp
    · exact List.mem_cons_of_mem _ (ih hk)

theorem ext_enters {P : Program} {g : FuncId} {k : XK} (h : ExtOk P g k) (hk : ∀ n, k ≠ .quiet n) : enters P g = false ∧ ∃ fn, P.funcs[g]? = some fn ∧ (fn.name == "runtime.NumGoroutine") = false ∧ fn.body.isNone = true ∧ (Extern.findNext fn).isNone = true ∧ Extern.find fn = some k.fn := by
  have h : ∃ fn, P.funcs[g]? = some fn ∧ (fn.name == "runtime.NumGoroutine") = false ∧ fn.body.isNone = true ∧ (Extern.findNext fn).isNone = true ∧ Extern.find fn = some k.fn := by
    cases k <;> first | exact h | exact absurd rfl (hk _)
  refine ⟨?_, h⟩
  obtain ⟨fn, e1, _, e3, _⟩ := h
  unfold enters
  rw [e1]
  cases hb : fn.body <;> simp [hb] at e3 ⊢

theorem exT_ok {P : Program} (l : List (FuncId × XK)) (hl : ∀ p ∈ l, ExtOk P p.1 p.2) : SX P (exT l) := by
  refine ⟨fun g args h d h' he hen M w vs hr ha => ?_, fun g args h d h' he hen M w vs hr ha => ?_⟩
  · unfold exT at he
    split at he
    case h_2 => cases he
    rename_i k hk
    obtain ⟨hek, rfl⟩ := map_pair he
    obtain ⟨v, h1, h2⟩ := exK_ok (P := P) hek ha w
    have hok := hl _ (exT_find hk)
    have hnq : ∀ n, k ≠ .quiet n := fun n e => by
      subst e
      have := hok.1
      simp only at this
      rw [hen] at this; cases this
    obtain ⟨_, fn, e1, e2, e3, e4, e5⟩ := ext_enters hok hnq
    refine ⟨v, w, M, ?_, hr, h2, Ext.refl M w⟩
    unfold callFunc
    simp only at e1 e5
    have e4' : Extern.findNext fn = none := by simpa using e4
    simp only [Sem.run_bind, run_program, Result.andThen_ok, e1]
    rw [if_neg (by rw [e2]; simp), if_pos e3]
    simp [e4', e5, h1]
  · unfold exT at he
    split at he
    case h_2 => cases he
    rename_i k hk
    obtain ⟨hek, rfl⟩ := map_pair he
    have hok := hl _ (exT_find hk)
    by_cases hq : ∃ n, k = .quiet n
    · obtain ⟨n, rfl⟩ := hq
      simp only [exK] at hek
      obtain ⟨hn, _⟩ := bif_some hek
      exact hok.2 vs w (by rw [ha.1]; exact Nat.eq_of_beq_eq_true hn)
    · have := (ext_enters hok (fun n e => hq ⟨n, e⟩)).1
      simp only at this
      rw [hen] at this; cases this
end Go.Ev
