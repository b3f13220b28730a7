/-
  Guards; what functions tell; regions in the text's order.
-/
import Derived.Test.YthlebppdhipanaaSyF
set_option linter.all false
namespace Go.Ev
open Go.Aw (WF enters callFunc_run callsIn_WF)

/-! ### Values under a guard -/
def ungd : D → D
  | .gd _ d => d
  | d => d

def gobl : D → Prop
  | .gd c _ => c = true
  | _ => True

theorem ungd_R {M : Mem} {d : D} {v : Value} (h : R M d v) (ho : gobl d) : R M (ungd d) v := by
  cases d <;> first | exact h | skip
  cases h with
  | gd c d v h1 h2 => exact h1 ho

def strictO (f : Operand → D) : List Operand → Prop
  | [] => True
  | x :: r => gobl (f x) ∧ strictO f r

theorem strictO_mem {f : Operand → D} : ∀ {l : List Operand}, strictO f l → ∀ x ∈ l, gobl (f x)
  | _ :: _, h, x, hx => by
    rcases List.mem_cons.1 hx with rfl | hx
    · exact h.1
    · exact strictO_mem h.2 x hx

def S.uv (s : S) (x : Operand) : D := ungd (s.val x)

theorem SRep.uv {M : Mem} {s : S} {w : World} {a : Act} {zs : Nat → Value} (h : SRep zs M s w a) {xs : Array Operand} (ho : strictO s.val xs.toList) : ∀ x ∈ xs, R M (s.uv x) (a.eval x) :=
  fun x hx => ungd_R (h.val x) (strictO_mem ho x (Array.mem_toList_iff.2 hx))

inductive GS where
  | run (e : Bool)
  | skip
  | bad

def guardS (gd : Nat → Option Tmp) (tm : List (Nat × D)) : Option (Nat × Bool) → GS
  | none => .run true
  | some (j, want) => (match gd j with
    | some t => (match lk tm t with
      | some (.lit (.bool b)) => .run (b == want)
      | some (.gd c (.lit (.bool b))) => .run (c && (b == want))
      | some .un => .skip
      | _ => .bad)
    | none => .bad)

theorem yielded_bool {ops : Array Oper} {a : Act} {j : Nat} {t : Tmp} {b : Bool} (hg : (ops[j]?).bind (·.dst) = some t) (hv : a.tmps.getD t undef = .bool b) : yielded ops a.tmps j = some b := by
  have hts : t < a.tmps.size := by
    by_cases hlt : t < a.tmps.size
    · exact hlt
    · rw [Array.getD_eq_getD_getElem?, Array.getElem?_eq_none (Nat.le_of_not_lt hlt)] at hv
      simp [undef] at hv
  unfold yielded
  rw [hg]
  rw [Array.getD_eq_getD_getElem?] at hv
  cases hq : a.tmps[t]? with
  | none => rw [Array.getElem?_eq_getElem hts] at hq; cases hq
  | some q =>
    rw [hq] at hv
    simp only [Option.getD_some] at hv
    subst hv
    simp [hq]

theorem yielded_undef {ops : Array Oper} {a : Act} {j : Nat} {t : Tmp} (hg : (ops[j]?).bind (·.dst) = some t) (hv : a.tmps.getD t undef = undef) : yielded ops a.tmps j = none := by
  unfold yielded
  rw [hg]
  simp only [Option.bind_some]
  rw [Array.getD_eq_getD_getElem?] at hv
  cases hq : a.tmps[t]? with
  | none => rfl
  | some q =>
    rw [hq] at hv
    simp only [Option.getD_some] at hv
    subst hv
    rfl

theorem guardS_ok {M : Mem} {ops : Array Oper} {s : S} {w : World} {a : Act} {o : Oper} (hr : ∀ j want t, o.guard = some (j, want) → (ops[j]?).bind (·.dst) = some t → ∀ d, lk s.tm t = some d → R M d (a.tmps.getD t undef)) :
    (∀ e, guardS (fun j => (ops[j]?).bind (·.dst)) s.tm o.guard = .run e → Region.wanted o (yielded ops a.tmps) = e) ∧ (guardS (fun j => (ops[j]?).bind (·.dst)) s.tm o.guard = .skip → Region.wanted o (yielded ops a.tmps) = false) := by
  unfold guardS
  split
  · rename_i hg
    exact ⟨fun e h => by cases h; simp [Region.wanted, hg], fun h => by cases h⟩
  · rename_i j want hg
    split
    case h_2 => exact ⟨fun e h => (by cases h), fun h => (by cases h)⟩
    rename_i t ht
    have ht : (ops[j]?).bind (·.dst) = some t := ht
    split
    · rename_i b hb
      have hv := (hr _ _ _ hg ht _ hb).litE
      refine ⟨fun e h => ?_, fun h => by cases h⟩
      cases h
      simp only [Region.wanted, hg, yielded_bool ht hv]
      cases b <;> cases want <;> rfl
    · rename_i c b hb
      have hv := hr _ _ _ hg ht _ hb
      refine ⟨fun e h => ?_, fun h => by cases h⟩
      cases h
      cases hv with
      | gd _ _ _ h1 h2 =>
      cases c with
      | true =>
        simp only [Region.wanted, hg, yielded_bool ht (h1 rfl).litE]
        cases b <;> cases want <;> rfl
      | false =>
        simp only [Region.wanted, hg, yielded_undef ht (h2 rfl)]
        rfl
    · rename_i hb
      have hv := hr _ _ _ hg ht _ hb
      refine ⟨fun e h => (by cases h), fun _ => ?_⟩
      generalize hq : a.tmps.getD t undef = q at hv
      cases hv
      simp only [Region.wanted, hg, yielded_undef ht hq]
      rfl
    · exact ⟨fun e h => (by cases h), fun h => (by cases h)⟩

def mkd (g : Option (Nat × Bool)) (e : Bool) (d : D) : D :=
  match g with
  | none => d
  | some _ => .gd e d

/-! ### What functions tell -/
inductive Out where
  | ret (d : D)
  | pan (d : D)

def OutR (M : Mem) : Out → Ending → Prop
  | .ret d, e => ∃ v, e = .returned v ∧ R M d v
  | .pan d, e => ∃ v, e = .panicked [{ v := v, recovered := false }] ∧ R M d v

/-- **Of arguments that lead to nothing that may change, the function tells what leads to nothing that may change, and leaves memory as it is.** -/
def FnO (P : Program) (g : FuncId) (args : List D) (o : Out) : Prop :=
  (enters P g = true ∧ ∀ fz w vs, Inv (Mem.none fz) w → argsOk (Mem.none fz) args vs →
    Calls P g vs w fun e w' => ∃ fz', OutR (Mem.none fz') o e ∧ Inv (Mem.none fz') w' ∧ ExtW (Mem.none fz) w (Mem.none fz') w') ∨
  (enters P g = false ∧ ∀ fz w vs, Inv (Mem.none fz) w → argsOk (Mem.none fz) args vs →
    ∃ d v w' fz', o = .ret d ∧ (callFunc g vs).run P w = .ok (.value v) w' ∧ R (Mem.none fz') d v ∧ Inv (Mem.none fz') w' ∧ ExtW (Mem.none fz) w (Mem.none fz') w')

theorem inv_none {M : Mem} {w : World} (h : Inv M w) : Inv (Mem.none M.fz) w :=
  ⟨fun _ _ _ _ _ e => (by cases e), fun _ _ _ e => (by cases e), fun _ _ _ e => (by cases e), h.fz, fun _ _ _ _ _ e => (by cases e)⟩

/-- More that does not change is known; memory has grown. -/
theorem SRep.grow {M : Mem} {s : S} {w w' : World} {a : Act} {zs : Nat → Value} (h : SRep zs M s w a) {fz' : Nat → Option (Array Value)} (hi : Inv (Mem.none fz') w') (he : ExtW (Mem.none M.fz) w (Mem.none fz') w') :
    SRep zs { M with fz := fz' } s w' a ∧ Ext M w { M with fz := fz' } w' := by
  have hle : M.le { M with fz := fz' } := ⟨Nat.le_refl _, fun _ _ => .inl rfl, he.fz⟩
  have hkeep : ∀ b, b < w.heap.size → w'.heap[b]? = w.heap[b]? := fun b hb => he.keep b hb (fun _ _ e => by cases e)
  have hsep : ∀ b c, fz' b = some c → ∀ l k, M.μ l ≠ .blk b k := fun b c e l k e2 => by
    rcases he.fznew b c e with h1 | ⟨_, _, h1⟩ | h1
    · exact h.h.inv.sep b c h1 l k e2
    · cases h1
    · have := h.h.inv.lt l b k e2; omega
  have hh : RH { M with fz := fz' } s.H w' := ⟨⟨h.h.inv.inj, fun l b c e => Nat.lt_of_lt_of_le (h.h.inv.lt l b c e) he.size, h.h.inv.nx, hi.fz, hsep⟩, fun l k e => (h.h.hp l k e).mono hle (fun b c e2 => hkeep b (h.h.inv.lt _ _ _ e2)), h.h.nx⟩
  refine ⟨h.mono hle (hp := s.hp) (nx := s.nx) hh, ⟨he.os, he.tape, he.output, he.size, fun b hb _ => hkeep b hb, fun l b c e => .inl ⟨l, c, e⟩, Nat.le_refl _, fun _ _ => .inl rfl, he.fz, fun b c e => ?_, fun _ _ h => h⟩⟩
  rcases he.fznew b c e with h1 | ⟨_, _, h1⟩ | h1
  · exact .inl h1
  · cases h1
  · exact .inr (.inr h1)

theorem args_none {M : Mem} {args : List D} {vs : Array Value} (h : argsOk M args vs) (hb : D.belL 0 args = true) : argsOk (Mem.none M.fz) args vs :=
  ⟨h.1, fun i d hi => (h.2 i d hi).free (belL_get 0 args i d hb hi) (fun _ _ h => h)⟩

/-! ### Calls -/
def PostS (zs : Nat → Value) (rl r : Option Nat) (I : Gh) (a : Act) (K Kp : D → S → Prop) (e : Ending) (w' : World) : Prop :=
  ∃ M' s' o, SRep zs M' s' w' a ∧ I.at s'.g M' w' ∧ RelR M' rl r ∧ OutR M' o e ∧ (match o with | .ret d => K d s' | .pan d => Kp d s')

def CallF (P : Program) (rl : Option Nat) (I : Gh) (g : FuncId) (args : List D) (s : S) (K Kp : D → S → Prop) : Prop :=
  ∀ r M w a zs, RelR M rl r → SRep zs M s w a → I.at s.g M w → ∀ vs, argsOk M args vs →
    (enters P g = true ∧ Calls P g vs w (PostS zs rl r I a K Kp)) ∨
    (enters P g = false ∧ ∃ v w', (callFunc g vs).run P w = .ok (.value v) w' ∧ PostS zs rl r I a K Kp (.returned v) w')

def CallYl (P : Program) (rl : Option Nat) (I : Gh) (l : Nat) (args : List D) (s : S) (K Kp : D → S → Prop) : Prop :=
  ∀ r M w a b zs, RelR M rl r → SRep zs M s w a → I.at s.g M w → M.at l b → ∀ vs, argsOk M args vs →
    ∃ fn ts assign body, (Instr.yield b vs).run P w = .ok (.round b fn ts assign body) w ∧ ∀ q, RoundIn (WF q) 0 P b fn ts assign body w (PostS zs rl r I a K Kp)

/-- A yield that is known as it is. -/
def CallCon (P : Program) (rl : Option Nat) (I : Gh) (v : Value) (args : List D) (s : S) (K Kp : D → S → Prop) : Prop :=
  ∃ b, v = .func (.yield b) #[] #[] ∧ ∀ r M w a zs, RelR M rl r → SRep zs M s w a → I.at s.g M w → ∀ vs, argsOk M args vs →
    ∃ fn ts assign body, (Instr.yield b vs).run P w = .ok (.round b fn ts assign body) w ∧ ∀ q, RoundIn (WF q) 0 P b fn ts assign body w (PostS zs rl r I a K Kp)

def CallD (P : Program) (rl : Option Nat) (I : Gh) (f : D) (args : List D) (s : S) (K Kp : D → S → Prop) : Prop :=
  match f with
  | .fn (.func g) first caps => CallF P rl I g (first ++ (args ++ caps)) s K Kp
  | .yl l => CallYl P rl I l args s K Kp
  | .con v => CallCon P rl I v args s K Kp
  | _ => False

/-- A pure function is called. -/
theorem callF_fnO {P : Program} {rl : Option Nat} {I : Gh} {g : FuncId} {args : List D} {o : Out} {s : S} {K Kp : D → S → Prop} (h : FnO P g args o) (ha : D.belL 0 args = true) (hd : ∀ d, (o = .ret d ∨ o = .pan d) → D.bel 0 d = true) (hK : match (generalizing := false) o with | .ret d => K d s | .pan d => Kp d s) :
    CallF P rl I g args s K Kp := by
  intro r M w a zs hrl hr hg vs hvs
  have hvs' := args_none hvs ha
  rcases h with ⟨he, h⟩ | ⟨he, h⟩
  · refine .inl ⟨he, (h _ w vs (inv_none hr.h.inv) hvs').mono ?_⟩
    rintro e w' ⟨fz', h1, h2, h3⟩
    obtain ⟨g1, g2⟩ := hr.grow h2 h3
    refine ⟨_, s, o, g1, hg.mono g2.w, hrl.mono g2.le, ?_, hK⟩
    cases o with
    | ret d => obtain ⟨v, q1, q2⟩ := h1; exact ⟨v, q1, q2.free (hd d (.inl rfl)) (fun _ _ h => h)⟩
    | pan d => obtain ⟨v, q1, q2⟩ := h1; exact ⟨v, q1, q2.free (hd d (.inr rfl)) (fun _ _ h => h)⟩
  · obtain ⟨d, v, w', fz', rfl, h1, h2, h3, h4⟩ := h _ w vs (inv_none hr.h.inv) hvs'
    obtain ⟨g1, g2⟩ := hr.grow h3 h4
    exact .inr ⟨he, v, w', h1, _, s, .ret d, g1, hg.mono g2.w, hrl.mono g2.le, ⟨v, rfl, h2.free (hd d (.inl rfl)) (fun _ _ h => h)⟩, hK⟩

/-- A call of a function, or a yield. -/
def CallS (P : Program) (rl : Option Nat) (I : Gh) (e : Bool) (f : D) (args : List D) (so : Prop) (g : Option (Nat × Bool)) (dst : Option Tmp) (s : S) (K : S → Prop) (Kp : D → S → Prop) : Prop :=
  (∃ d, (e = true → so ∧ CallD P rl I f args s (fun d' s' => d' = d ∧ s' = s) (fun _ _ => False)) ∧ s.room dst ∧ K (s.put dst (mkd g e d))) ∨
  ((e = true → so ∧ CallD P rl I f args s (fun d s' => s'.room dst ∧ K (s'.put dst d)) Kp) ∧ (e = false → s.room dst ∧ K (s.put dst .un)))

/-! ### Operations -/
def pickV (b : Bool) : D → D → Option D
  | .lit (.bool p), .lit (.bool q) => some (.lit (.bool (bif b then p else q)))
  | _, _ => none

def quietS (P : Program) (e : Bool) (o : Oper) (s : S) (K : S → Prop) : Prop :=
  match valS P s.H s.uv o.op with
  | some d => (e = true → strictO s.val o.op.operands.toList ∧ oblS P s.H s.uv o.op) ∧ s.room o.dst ∧ K (s.put o.dst (mkd o.guard e d))
  | none => e = false ∧ s.room o.dst ∧ K (s.put o.dst (.gd false (.lit (.bool false))))
/-- What is not there. -/
theorem nb_R (M : Mem) : R M (.gd false (.lit (.bool false))) undef := .gd _ _ _ (fun h => by cases h) (fun _ => rfl)

def bigS (P : Program) (e : Bool) (o : Oper) (s : S) (K : S → Prop) : Prop :=
  match bigL P s.hp s.nx s.uv o.op with
  | some (d, hp', nx') => (e = true → strictO s.val o.op.operands.toList ∧ bigO P s.hp s.uv o.op ∧ s.room o.dst ∧ K ({ s with hp := hp', nx := nx' }.put o.dst d)) ∧ (e = false → s.room o.dst ∧ K (s.put o.dst .un))
  | none => e = false ∧ s.room o.dst ∧ K (s.put o.dst .un)

def pickS (e : Bool) (g : Option (Nat × Bool)) (dst : Option Tmp) (c x y : D) (s : S) (K : S → Prop) : Prop :=
  match ungd c with
  | .lit (.bool b) => (match pickV b (ungd x) (ungd y) with
    | some d => (e = true → gobl c ∧ (b = true → gobl x) ∧ (b = false → gobl y)) ∧ s.room dst ∧ K (s.put dst (mkd g e d))
    | none => False)
  | _ => False

def stepS (P : Program) (rl : Option Nat) (I : Gh) (e : Bool) (o : Oper) (s : S) (K : S → Prop) (Kp : D → S → Prop) : Prop :=
  match o.op with
  | .pick c x y => pickS e o.guard o.dst (s.val c) (s.val x) (s.val y) s K
  | .call c => (match c.callee with
    | .value f => CallS P rl I e (s.uv f) (c.args.toList.map s.uv) (strictO s.val o.op.operands.toList) o.guard o.dst s K Kp
    | .builtin .append => bigS P e o s K
    | _ => quietS P e o s K)
  | .panic x => (e = true → gobl (s.val x) ∧ Kp (s.uv x) s) ∧ (e = false → s.room o.dst ∧ K (s.put o.dst .un))
  | .alloc _ => bigS P e o s K
  | .box _ _ => bigS P e o s K
  | .buildSlice _ _ _ => bigS P e o s K
  | .makeSlice _ _ _ => bigS P e o s K
  | .store _ _ _ => bigS P e o s K
  | _ => quietS P e o s K

/-- What an operation owes. -/
def OpS (P : Program) (rl : Option Nat) (I : Gh) (e : Bool) (o : Oper) (s : S) (K : S → Prop) (Kp : D → S → Prop) : Prop :=
  ∀ r M w a zs (next : Act → World → Prop) (Q : Exit → Act → World → Prop), RelR M rl r → SRep zs M s w a → I.at s.g M w → (∀ M' s' w' a', SRep zs M' s' w' a' → I.at s'.g M' w' → RelR M' rl r → K s' → next a' w') →
    (∀ M' s' w' v d, SRep zs M' s' w' a → I.at s'.g M' w' → RelR M' rl r → R M' d v → Kp d s' → Q (.panic [{ v := v, recovered := false }]) a w') →
    (e = true → o.wpIn (WF r) 0 P a w next Q) ∧ (e = false → next (a.put o.dst undef) w)

theorem S.put_g (s : S) (dst : Option Tmp) (d : D) : (s.put dst d).g = s.g := by cases dst <;> rfl
theorem mkd_R {M : Mem} {g : Option (Nat × Bool)} {e : Bool} {d : D} {v : Value} (he : e = true) (h : R M d v) : R M (mkd g e d) v := by
  cases g with
  | none => exact h
  | some p => exact .gd e d v (fun _ => h) (fun h2 => by rw [he] at h2; cases h2)

/-- Guard none: it runs. -/
def gOk (g : Option (Nat × Bool)) (e : Bool) : Prop := g = none → e = true

theorem skip_mkd {M : Mem} {g : Option (Nat × Bool)} {e : Bool} (he : e = false) (hg : gOk g e) (d : D) : R M (mkd g e d) undef := by
  cases g with
  | none => have := hg rfl; rw [he] at this; cases this
  | some p => exact .gd e d undef (fun h => by rw [he] at h; cases h) (fun _ => rfl)

theorem did_next {P : Program} {M : Mem} {w : World} {r : Option Nat} {o : Oper} {a : Act} {d : D} {h' : H} (hnd : ∀ c, o.op ≠ .defer c) (hd : Did P M w o a.eval d h') (next : Act → World → Prop) (Q : Exit → Act → World → Prop)
    (hn : ∀ M' w' v, RH M' h' w' → R M' d v → Ext M w M' w' → next (a.put o.dst v) w') : o.wpIn (WF r) 0 P a w next Q := by
  obtain ⟨v, w', M', hrun, h1, h2, h3⟩ := hd
  refine ⟨fun _ _ => trivial, ?_⟩
  rw [semAt_exec hnd]
  rcases hrun with hrun | ⟨hrun, rfl⟩
  · rw [hrun]; exact hn M' w' v h1 h2 h3
  · rw [hrun]; exact hn M' w' undef h1 h2 h3

theorem quietS_ok {P : Program} {rl : Option Nat} {I : Gh} {e : Bool} {o : Oper} {s : S} {K : S → Prop} {Kp : D → S → Prop} (hg : gOk o.guard e) (hnd : ∀ c, o.op ≠ .defer c) (h : quietS P e o s K) : OpS P rl I e o s K Kp := by
  unfold quietS at h
  intro r M w a zs next Q hrl hr hgh hn _
  split at h
  · rename_i d hd
    obtain ⟨h1, h2, h3⟩ := h
    refine ⟨fun he => ?_, fun he => ?_⟩
    · obtain ⟨q1, q2⟩ := h1 he
      refine did_next hnd (quiet_ok hd q2 M w hr.h a.eval (hr.uv q1) o rfl) next Q fun M' w' v g1 g2 g3 => ?_
      exact hn M' _ w' _ ((hr.mono g3.le (hp := s.hp) (nx := s.nx) g1).put (mkd_R he g2) h2) (by rw [S.put_g]; exact hgh.mono g3.w) (hrl.mono g3.le) h3
    · exact hn M _ w _ (hr.put (skip_mkd he hg d) h2) (by rw [S.put_g]; exact hgh) hrl h3
  · obtain ⟨h1, h2, h3⟩ := h
    exact ⟨fun he => (by rw [h1] at he; cases he), fun _ => hn M _ w _ (hr.put (nb_R M) h2) (by rw [S.put_g]; exact hgh) hrl h3⟩

theorem bigS_ok {P : Program} {rl : Option Nat} {I : Gh} {e : Bool} {o : Oper} {s : S} {K : S → Prop} {Kp : D → S → Prop} (hnd : ∀ c, o.op ≠ .defer c) (h : bigS P e o s K) : OpS P rl I e o s K Kp := by
  unfold bigS at h
  intro r M w a zs next Q hrl hr hgh hn _
  split at h
  · rename_i d hp' nx' hd
    refine ⟨fun he => ?_, fun he => ?_⟩
    · obtain ⟨q1, q2, q3, q4⟩ := h.1 he
      refine did_next hnd (big_ok hd q2 M w hr.h a.eval (hr.uv q1) o rfl) next Q fun M' w' v g1 g2 g3 => ?_
      exact hn M' _ w' _ ((hr.mono g3.le g1).put g2 q3) (by rw [S.put_g]; exact hgh.mono g3.w) (hrl.mono g3.le) q4
    · obtain ⟨q1, q2⟩ := h.2 he
      exact hn M _ w _ (hr.put .un q1) (by rw [S.put_g]; exact hgh) hrl q2
  · obtain ⟨h1, h2, h3⟩ := h
    exact ⟨fun he => (by rw [h1] at he; cases he), fun _ => hn M _ w _ (hr.put .un h2) (by rw [S.put_g]; exact hgh) hrl h3⟩

theorem pickS_ok {P : Program} {rl : Option Nat} {I : Gh} {e : Bool} {o : Oper} {s : S} {K : S → Prop} {Kp : D → S → Prop} {c x y : Operand} (hop : o.op = .pick c x y) (hg : gOk o.guard e) (h : pickS e o.guard o.dst (s.val c) (s.val x) (s.val y) s K) : OpS P rl I e o s K Kp := by
  unfold pickS at h
  intro r M w a zs next Q hrl hr hgh hn _
  split at h
  case h_2 => exact h.elim
  rename_i b hb
  split at h
  case h_2 => exact h.elim
  rename_i d hd
  obtain ⟨h1, h2, h3⟩ := h
  refine ⟨fun he => ?_, fun he => hn M _ w _ (hr.put (skip_mkd he hg d) h2) (by rw [S.put_g]; exact hgh) hrl h3⟩
  obtain ⟨q1, q2, q3⟩ := h1 he
  have hc := ungd_R (hr.val c) q1
  rw [hb] at hc
  refine ⟨fun _ _ => trivial, ?_⟩
  rw [semAt_exec (fun c' => by rw [hop]; simp)]
  have hrun : (execOp a.eval o).run P w = .ok (.value (if b then a.eval x else a.eval y)) w := by simp only [execOp, hop, hc.litE, asBool, Sem.run_bind, Sem.run_pure, Result.andThen_ok]
  rw [hrun]
  refine hn M _ w _ (hr.put (mkd_R he ?_) h2) (by rw [S.put_g]; exact hgh) hrl h3
  unfold pickV at hd
  split at hd
  case h_2 => cases hd
  rename_i p q hp hq
  cases hd
  cases b with
  | true =>
    have := ungd_R (hr.val x) (q2 rfl)
    rw [hp] at this
    exact this
  | false =>
    have := ungd_R (hr.val y) (q3 rfl)
    rw [hq] at this
    exact this

theorem callD_ok {P : Program} {rl : Option Nat} {I : Gh} {o : Oper} {s : S} {K Kp : D → S → Prop} {c : Call} {f : Operand} (hop : o.op = .call c) (hc : c.callee = .value f) (hso : strictO s.val o.op.operands.toList) (h : CallD P rl I (s.uv f) (c.args.toList.map s.uv) s K Kp)
    {r : Option Nat} {M : Mem} {w : World} {a : Act} {zs : Nat → Value} (hrl : RelR M rl r) (hr : SRep zs M s w a) (hgh : I.at s.g M w) (next : Act → World → Prop) (Q : Exit → Act → World → Prop)
    (hn : ∀ M' s' w' d v, SRep zs M' s' w' a → I.at s'.g M' w' → RelR M' rl r → R M' d v → K d s' → next (a.put o.dst v) w')
    (hp : ∀ M' s' w' v d, SRep zs M' s' w' a → I.at s'.g M' w' → RelR M' rl r → R M' d v → Kp d s' → Q (.panic [{ v := v, recovered := false }]) a w') : o.wpIn (WF r) 0 P a w next Q := by
  have hx := hr.uv hso
  rw [hop] at hx
  have hargs : argsOk M (c.args.toList.map s.uv) (c.args.map a.eval) := ⟨by simp, fun i d hi => by
    simp only [List.getElem?_map, Array.getElem?_toList, Option.map_eq_some_iff] at hi
    obtain ⟨x, hxi, rfl⟩ := hi
    rw [show (c.args.map a.eval).getD i undef = a.eval x by simp [Array.getD_eq_getD_getElem?, hxi]]
    exact hx x (by simp only [Op.operands, Call.operands, hc]; simp [Array.mem_of_getElem? hxi])⟩
  have hf := hx f (by simp only [Op.operands, Call.operands, hc]; simp)
  refine ⟨fun _ _ => trivial, ?_⟩
  rw [semAt_exec (fun c' hc' => by rw [hop] at hc'; cases hc')]
  have fin : ∀ e w', PostS zs rl r I a K Kp e w' → (match e with | .returned v => next (a.put o.dst v) w' | .panicked c => Q (.panic c) a w' | .outgrown => False) := by
    rintro e w' ⟨M', s', o', g1, g2, g3, g4, g5⟩
    cases o' with
    | ret d => obtain ⟨v, rfl, g6⟩ := g4; exact hn M' s' w' d v g1 g2 g3 g6 g5
    | pan d => obtain ⟨v, rfl, g6⟩ := g4; exact hp M' s' w' v d g1 g2 g3 g6 g5
  unfold CallD at h
  split at h
  · rename_i g first caps hfd
    rw [hfd] at hf
    generalize hv : a.eval f = fv at hf
    cases hf with
    | fn _ _ _ v1 v2 h1 h2 r1 r2 =>
    have hao : argsOk M (first ++ (c.args.toList.map s.uv ++ caps)) (v1 ++ c.args.map a.eval ++ v2) := by
      have := argsOk_append (M := M) ⟨h1, r1⟩ (argsOk_append hargs ⟨h2, r2⟩)
      rwa [← Array.append_assoc] at this
    have hex : (execOp a.eval o).run P w = (callFunc g (v1 ++ c.args.map a.eval ++ v2)).run P w := by
      unfold execOp
      simp only [hop, resolve, hc, hv, Deferred.ofValue, Sem.run_bind, Sem.run_pure, Result.andThen_ok, invoke]
    rcases h r M w a zs hrl hr hgh _ hao with ⟨he, hcall⟩ | ⟨he, v, w', h1, h2⟩
    · rw [hex, callFunc_run he _ w]
      refine ⟨fun h => by simp [WF] at h, callsIn_WF (hcall.mono fun e w' hpost => ?_)⟩
      have := fin e w' hpost
      cases e <;> first | exact this | exact this.elim
    · rw [hex, h1]
      exact fin _ _ h2
  · rename_i l hfd
    rw [hfd] at hf
    generalize hv : a.eval f = fv at hf
    cases hf with
    | yl _ b ha =>
    obtain ⟨fn, ts, assign, body, h1, h2⟩ := h r M w a b zs hrl hr hgh ha _ hargs
    have hrun : (execOp a.eval o).run P w = .ok (.round b fn ts assign body) w := by
      unfold execOp
      simp only [hop, resolve, hc, hv, Deferred.ofValue, Sem.run_bind, Sem.run_pure, Result.andThen_ok, invoke, Array.empty_append]
      exact h1
    rw [hrun]
    refine ⟨fun h => by simp [WF] at h, (h2 r).mono fun e w' hpost => ?_⟩
    have := fin e w' hpost
    cases e <;> first | exact this | exact this.elim
  · rename_i v hfd
    obtain ⟨b, rfl, h⟩ := h
    rw [hfd] at hf
    generalize hv : a.eval f = fv at hf
    cases hf with
    | con _ _ =>
    obtain ⟨fn, ts, assign, body, h1, h2⟩ := h r M w a zs hrl hr hgh _ hargs
    have hrun : (execOp a.eval o).run P w = .ok (.round b fn ts assign body) w := by
      unfold execOp
      simp only [hop, resolve, hc, hv, Deferred.ofValue, Sem.run_bind, Sem.run_pure, Result.andThen_ok, invoke, Array.empty_append]
      exact h1
    rw [hrun]
    refine ⟨fun h => by simp [WF] at h, (h2 r).mono fun e w' hpost => ?_⟩
    have := fin e w' hpost
    cases e <;> first | exact this | exact this.elim
  · exact h.elim
end Go.Ev
