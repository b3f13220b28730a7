/-
  Code, reckoned: what is owed of a piece of code, by tables of what functions tell.
-/
import Derived.Test.YthlebppdhipanaaSyN
set_option linter.all false
namespace Go.Ev
open Go.Aw (WF enters tiOf)

/-- A table of pure functions: what is asked of arguments, and what is told. -/
abbrev Tb := FuncId → List D → Option (Prop × D)

def TbOk (P : Program) (tb : Tb) : Prop := ∀ g as p d, tb g as = some (p, d) → p → FnO P g as (.ret d) ∧ D.belL 0 as = true ∧ D.bel 0 d = true

def tbK (v : Option (Prop × D)) (f : Prop → D → Prop) (no : Prop) : Prop :=
  match v with
  | some (p, d) => f p d
  | none => no

def callW (P : Program) (rl : Option Nat) (I : Gh) (tb : Tb) (e : Bool) (f : D) (args : List D) (so : Prop) (g : Option (Nat × Bool)) (dst : Option Tmp) (s : S) (K : S → Prop) (Kp : D → S → Prop) : Prop :=
  match e with
  | false => s.room dst ∧ K (s.put dst (mkd g false (.lit (.bool false))))
  | true => (match f with
    | .fn (.func gg) first caps => tbK (tb gg (first ++ (args ++ caps))) (fun p d => (so ∧ p) ∧ s.room dst ∧ K (s.put dst (mkd g true d))) (CallS P rl I true f args so g dst s K Kp)
    | _ => CallS P rl I true f args so g dst s K Kp)

def callDW (P : Program) (tb : Tb) (e : Bool) (f : D) (args : List D) (so : Prop) (g : Option (Nat × Bool)) (dst : Option Tmp) (s : S) (K : S → Prop) : Prop :=
  match e with
  | false => s.room dst ∧ K (s.put dst (mkd g false (.lit (.bool false))))
  | true => (match f with
    | .fn (.func gg) first caps => tbK (tb gg (first ++ (args ++ caps))) (fun p d => (so ∧ p) ∧ s.room dst ∧ K (s.put dst (mkd g true d))) (callQ P true f args so g dst s K)
    | _ => callQ P true f args so g dst s K)

def stepW (P : Program) (rl : Option Nat) (I : Gh) (tb : Tb) (e : Bool) (o : Oper) (s : S) (K : S → Prop) (Kp : D → S → Prop) : Prop :=
  match o.op with
  | .pick c x y => pickS e o.guard o.dst (s.val c) (s.val x) (s.val y) s K
  | .call c => (match c.callee with
    | .value f => callW P rl I tb e (s.uv f) (c.args.toList.map s.uv) (strictO s.val o.op.operands.toList) o.guard o.dst s K Kp
    | .builtin .append => bigS P e o s K
    | _ => quietS P e o s K)
  | .panic x => (e = true → gobl (s.val x) ∧ Kp (s.uv x) s) ∧ (e = false → s.room o.dst ∧ K (s.put o.dst .un))
  | .alloc _ => bigS P e o s K
  | .box _ _ => bigS P e o s K
  | .buildSlice _ _ _ => bigS P e o s K
  | .makeSlice _ _ _ => bigS P e o s K
  | .store _ _ _ => bigS P e o s K
  | _ => quietS P e o s K

def stepDW (P : Program) (tb : Tb) (e : Bool) (o : Oper) (s : S) (K : S → Prop) : Prop :=
  match o.op with
  | .pick c x y => pickS e o.guard o.dst (s.val c) (s.val x) (s.val y) s K
  | .call c => (match c.callee with
    | .value f => callDW P tb e (s.uv f) (c.args.toList.map s.uv) (strictO s.val o.op.operands.toList) o.guard o.dst s K
    | .builtin .append => e = true ∧ bigS P true o s K
    | _ => quietS P e o s K)
  | .panic _ => False
  | .defer _ => False
  | .alloc _ => e = true ∧ lk s.hp s.nx = none ∧ bigS P true o s K
  | .box _ _ => e = true ∧ lk s.hp s.nx = none ∧ bigS P true o s K
  | .buildSlice _ _ _ => e = true ∧ lk s.hp s.nx = none ∧ bigS P true o s K
  | .makeSlice _ _ _ => e = true ∧ lk s.hp s.nx = none ∧ bigS P true o s K
  | .store _ _ _ => e = true ∧ bigS P true o s K
  | _ => isBig o.op = false ∧ quietS P e o s K

section
variable {P : Program} {rl : Option Nat} {I : Gh} {tb : Tb} {e : Bool} {o : Oper} {s : S} {K : S → Prop} {Kp : D → S → Prop}

theorem callW_ok (ht : TbOk P tb) {f : D} {args : List D} {so : Prop} {g : Option (Nat × Bool)} {dst : Option Tmp} (h : callW P rl I tb e f args so g dst s K Kp) : CallS P rl I e f args so g dst s K Kp := by
  cases e with
  | false => exact .inl ⟨.lit (.bool false), (fun h => by cases h), h.1, h.2⟩
  | true =>
  simp only [callW] at h
  split at h
  · rename_i gg first caps
    unfold tbK at h
    split at h
    · rename_i p d hp
      obtain ⟨⟨q1, q2⟩, h2, h3⟩ := h
      obtain ⟨k1, k2, k3⟩ := ht _ _ _ _ hp q2
      exact callS_fn d (fun _ => q1) (fun _ => k1) k2 k3 h2 h3
    · exact h
  · exact h

theorem callDW_ok (ht : TbOk P tb) {f : D} {args : List D} {so : Prop} {g : Option (Nat × Bool)} {dst : Option Tmp} (h : callDW P tb e f args so g dst s K) : callQ P e f args so g dst s K := by
  cases e with
  | false => exact ⟨.lit (.bool false), (fun h => by cases h), h.1, h.2⟩
  | true =>
  simp only [callDW] at h
  split at h
  · rename_i gg first caps
    unfold tbK at h
    split at h
    · rename_i p d hp
      obtain ⟨⟨q1, q2⟩, h2, h3⟩ := h
      exact ⟨d, fun _ => ⟨q1, ht _ _ _ _ hp q2⟩, h2, h3⟩
    · exact h
  · exact h

theorem stepW_ok (ht : TbOk P tb) (h : stepW P rl I tb e o s K Kp) : stepS P rl I e o s K Kp := by
  unfold stepW at h
  unfold stepS
  split at h
  case h_2 c hop =>
    simp only [hop] at h ⊢
    split at h
    · rename_i f hc; simp only [hc]; exact callW_ok ht h
    · rename_i hc; simp only [hc]; exact h
    · rename_i h1 h2
      split
      · rename_i f hc; exact absurd hc (h1 f)
      · rename_i hc; exact absurd hc h2
      · exact h
  all_goals (rename_i hop; first | (simp only [hop] at h ⊢; exact h) | skip)

theorem stepDW_ok (ht : TbOk P tb) (h : stepDW P tb e o s K) : stepD P rl e o s K := by
  unfold stepDW at h
  unfold stepD
  split at h
  case h_2 c hop =>
    simp only [hop] at h ⊢
    split at h
    · rename_i f hc; simp only [hc]; exact callDW_ok ht h
    · rename_i hc; simp only [hc]; exact h
    · rename_i h1 h2
      split
      · rename_i f hc; exact absurd hc (h1 f)
      · rename_i hc; exact absurd hc h2
      · exact h
  all_goals (rename_i hop; first | exact h.elim | (simp only [hop] at h ⊢; exact h) | skip)
end

/-! ### Regions -/
/-- What comes of a guard; where 'md' holds, by both cases of what is not known. -/
def runM (md : Bool) (g : GS) (A : Bool → Prop) (B C : Prop) : Prop :=
  match g with
  | .run e => (match md with
    | false => A e
    | true => (e = false → C) ∧ (e = true → A true))
  | .skip => B
  | .bad => False

theorem runM_true {md : Bool} {A : Bool → Prop} {B C : Prop} (h : runM md (.run true) A B C) : A true := by
  cases md with
  | false => exact h
  | true => exact h.2 rfl

def seqW (md : Bool) (P : Program) (rl : Option Nat) (I : Gh) (tb : Tb) : List (Option Tmp) → List Oper → S → (S → Prop) → (D → S → Prop) → Prop
  | _, [], s, K, _ => K s
  | h, o :: rest, s, K, Kp => noPanic o.op = true ∧ runM md (guardS (hAt h) s.tm o.guard) (fun e => stepW P rl I tb e o s (fun s' => seqW md P rl I tb (h ++ [o.dst]) rest s' K Kp) Kp) (s.room o.dst ∧ seqW md P rl I tb (h ++ [o.dst]) rest (s.put o.dst .un) K Kp) (s.room o.dst ∧ seqW md P rl I tb (h ++ [o.dst]) rest (s.put o.dst (.gd false (.lit (.bool false)))) K Kp)

theorem seqW_ok {md : Bool} {P : Program} {tb : Tb} {rl r : Option Nat} {zs : Nat → Value} {I : Gh} {ops : List Oper} {K : S → Prop} {Kp : D → S → Prop} {Q : Exit → Act → World → Prop} (ht : TbOk P tb)
    (hK : ∀ M s w a, SRep zs M s w a → I.at s.g M w → RelR M rl r → K s → Q .normal a w) (hKp : ∀ M s w a d v, SRep zs M s w a → R M d v → I.at s.g M w → RelR M rl r → Kp d s → Q (.panic [{ v := v, recovered := false }]) a w) :
    ∀ (l pre : List Oper), ops = pre ++ l → ∀ s, seqW md P rl I tb (pre.map (·.dst)) l s K Kp → ∀ M w a, SRep zs M s w a → I.at s.g M w → RelR M rl r →
      wpOpsIn (WF r) 0 P ops.toArray Q (List.range' pre.length l.length) a w
  | [], pre, hl, s, h, M, w, a, hr, he, hrl => hK M s w a hr he hrl h
  | o :: rest, pre, hl, s, h, M, w, a, hr, he, hrl => by
    have ho : ops.toArray[pre.length]? = some o := by simp [hl]
    simp only [List.length_cons, List.range'_succ, wpOpsIn, ho]
    have ih := seqW_ok (md := md) (P := P) (rl := rl) (r := r) (zs := zs) (I := I) (ops := ops) ht hK hKp rest (pre ++ [o]) (by simp [hl])
    rw [show (pre ++ [o]).length = pre.length + 1 by simp, show (pre ++ [o]).map (·.dst) = pre.map (·.dst) ++ [o.dst] by simp] at ih
    simp only [seqW] at h
    obtain ⟨hnp, h⟩ := h
    have hgo := guardS_ok (M := M) (ops := ops.toArray) (s := s) (w := w) (a := a) (o := o) (fun _ _ t _ _ d hd => hr.t t d hd)
    have hconv : guardS (fun j => (ops.toArray[j]?).bind (·.dst)) s.tm o.guard = guardS (fun j => (ops[j]?).bind (·.dst)) s.tm o.guard := by simp
    cases hg : guardS (hAt (pre.map (·.dst))) s.tm o.guard with
    | bad => rw [hg] at h; exact h.elim
    | skip =>
      have hg2 := hconv.trans (hgs_ok hl rfl (tm := s.tm) (by rw [hg]; simp))
      rw [hg] at h hg2
      rw [if_neg (by rw [hgo.2 hg2]; simp)]
      exact ⟨fun _ _ => trivial, ih _ h.2 M w _ (hr.put .un h.1) (by rw [S.put_g]; exact he) hrl⟩
    | run e =>
      have hg2 := hconv.trans (hgs_ok hl rfl (tm := s.tm) (by rw [hg]; simp))
      rw [hg] at h hg2
      have hw := hgo.1 e hg2
      cases md with
      | false =>
        obtain ⟨q1, q2⟩ := stepS_ok (guardS_gOk hg) (fun x hx => by rw [hx] at hnp; cases hnp) (stepW_ok ht h) r M w a zs (wpOpsIn (WF r) 0 P ops.toArray Q (List.range' (pre.length + 1) rest.length)) Q hrl hr he
          (fun M' s' w' a' g1 g2 g3 g4 => ih s' g4 M' w' a' g1 g2 g3) (fun M' s' w' v d g1 g2 g3 g4 g5 => hKp M' s' w' a d v g1 g4 g2 g3 g5)
        cases e with
        | true => rw [if_pos hw]; exact q1 rfl
        | false => rw [if_neg (by rw [hw]; simp)]; exact ⟨fun _ _ => trivial, q2 rfl⟩
      | true =>
        cases e with
        | true =>
          obtain ⟨q1, q2⟩ := stepS_ok (guardS_gOk hg) (fun x hx => by rw [hx] at hnp; cases hnp) (stepW_ok ht (h.2 rfl)) r M w a zs (wpOpsIn (WF r) 0 P ops.toArray Q (List.range' (pre.length + 1) rest.length)) Q hrl hr he
            (fun M' s' w' a' g1 g2 g3 g4 => ih s' g4 M' w' a' g1 g2 g3) (fun M' s' w' v d g1 g2 g3 g4 g5 => hKp M' s' w' a d v g1 g4 g2 g3 g5)
          rw [if_pos hw]; exact q1 rfl
        | false =>
          obtain ⟨k1, k2⟩ := h.1 rfl
          rw [if_neg (by rw [hw]; simp)]
          exact ⟨fun _ _ => trivial, ih _ k2 M w _ (hr.put (nb_R M) k1) (by rw [S.put_g]; exact he) hrl⟩

theorem w_regionW {md : Bool} {P : Program} {rl : Option Nat} {I : Gh} {tb : Tb} (ht : TbOk P tb) {Q : X → S → Prop} {s : S} {id : Nat} {l : List Oper} (h : seqW md P rl I tb [] l s (Q .normal) (fun d s => Q (.panic d) s)) : W P rl I (.region id l.toArray false) Q s := by
  intro r M w a zs hrl hr hg
  refine wpIn_region ?_
  rw [List.range_eq_range']
  have := seqW_ok (md := md) (P := P) (rl := rl) (r := r) (zs := zs) (I := I) (ops := l) (K := Q .normal) (Kp := fun d s => Q (.panic d) s) (Q := fun e a' w' => ∃ x M' s', RX M' x e ∧ SRep zs M' s' w' a' ∧ I.at s'.g M' w' ∧ RelR M' rl r ∧ Q x s') ht
    (fun M' s' w' a' g1 g2 g3 g4 => ⟨.normal, M', s', trivial, g1, g2, g3, g4⟩) (fun M' s' w' a' d v g1 g2 g3 g4 g5 => ⟨.panic d, M', s', ⟨v, rfl, g2⟩, g1, g3, g4, g5⟩)
    l [] rfl s h M w a hr hg hrl
  simpa using this

/-- Two stores that stand last have no order: of unlike blocks. -/
def tailC (so : Bool) (s : S) : List Oper → Prop
  | [a, b] => (match a.op, b.op with
    | .store _ x _, .store _ y _ => (match s.uv x, s.uv y with
      | .pt l _, .pt m _ => l ≠ m ∨ so = true
      | _, _ => so = true)
    | _, _ => True)
  | _ => True

def drawW (md : Bool) (P : Program) (rl : Option Nat) (tb : Tb) (so : Bool) : List (Option Tmp) → List Oper → S → (S → Prop) → Prop
  | _, [], s, K => K s
  | h, o :: rest, s, K => tailC so s (o :: rest) ∧ runM md (guardS (hAt h) s.tm o.guard) (fun e => stepDW P tb e o s (fun s' => drawW md P rl tb so (h ++ [o.dst]) rest s' K)) (s.room o.dst ∧ drawW md P rl tb so (h ++ [o.dst]) rest (s.put o.dst .un) K) (s.room o.dst ∧ drawW md P rl tb so (h ++ [o.dst]) rest (s.put o.dst (.gd false (.lit (.bool false)))) K)

theorem drawW_chain {md : Bool} {P : Program} {rl : Option Nat} {tb : Tb} (ht : TbOk P tb) {so : Bool} {ops : List Oper} {K : S → Prop} : ∀ (l1 l2 : List Oper) (h : List (Option Tmp)) (pre : List Oper) (s : S), ops = pre ++ (l1 ++ l2) → h = pre.map (·.dst) → drawW md P rl tb so h (l1 ++ l2) s K →
    ∃ (st : Nat → S) (val : Nat → D), st pre.length = s ∧ drawW md P rl tb so ((pre ++ l1).map (·.dst)) l2 (st (pre.length + l1.length)) K ∧ ∀ (i : Nat) (o : Oper), pre.length ≤ i → i < pre.length + l1.length → ops[i]? = some o → StepOK P rl ops o (st i) (val i) (st (i + 1))
  | [], l2, h, pre, s, ho, hh, hs => ⟨fun _ => s, fun _ => .un, rfl, by simpa [hh] using hs, fun i o hi hl => by simp at hl; omega⟩
  | o :: rest, l2, h, pre, s, ho, hh, hs => by
    simp only [List.cons_append] at ho hs
    unfold drawW at hs
    have hs := hs.2
    have ih : ∀ s', drawW md P rl tb so (h ++ [o.dst]) (rest ++ l2) s' K → ∃ (st : Nat → S) (val : Nat → D), st (pre.length + 1) = s' ∧ drawW md P rl tb so ((pre ++ o :: rest).map (·.dst)) l2 (st (pre.length + 1 + rest.length)) K ∧ ∀ (i : Nat) (q : Oper), pre.length + 1 ≤ i → i < pre.length + 1 + rest.length → ops[i]? = some q → StepOK P rl ops q (st i) (val i) (st (i + 1)) := fun s' h' => by
      have := drawW_chain ht rest l2 _ (pre ++ [o]) s' (by simpa using ho) (by simp [hh]) h'
      simpa using this
    have hoi : ops[pre.length]? = some o := by rw [ho]; simp
    have fin : ∀ (d : D) (s' : S), StepOK P rl ops o s d s' → drawW md P rl tb so (h ++ [o.dst]) (rest ++ l2) s' K → ∃ (st : Nat → S) (val : Nat → D), st pre.length = s ∧ drawW md P rl tb so ((pre ++ o :: rest).map (·.dst)) l2 (st (pre.length + (o :: rest).length)) K ∧ ∀ (i : Nat) (q : Oper), pre.length ≤ i → i < pre.length + (o :: rest).length → ops[i]? = some q → StepOK P rl ops q (st i) (val i) (st (i + 1)) := by
      intro d s' h1 h2
      obtain ⟨st, val, g1, g2, g3⟩ := ih s' h2
      refine ⟨fun i => if i = pre.length then s else st i, fun i => if i = pre.length then d else val i, if_pos rfl, ?_, fun i q hi hl hq => ?_⟩
      · dsimp only
        rw [if_neg (by simp), show pre.length + (o :: rest).length = pre.length + 1 + rest.length by simp; omega]
        exact g2
      · dsimp only
        by_cases hip : i = pre.length
        · subst hip
          rw [hoi] at hq
          cases hq
          rw [if_pos rfl, if_pos rfl, if_neg (by omega), g1]
          exact h1
        · rw [if_neg hip, if_neg hip, if_neg (by omega)]
          exact g3 i q (by omega) (by simp at hl; omega) hq
    have hguard : ∀ (M : Mem) (a : Act), (∀ t ∈ looks o (fun j => (ops[j]?).bind (·.dst)), ∀ x, lk s.tm t = some x → R M x (a.tmps.getD t undef)) →
        (∀ e, guardS (fun j => (ops.toArray[j]?).bind (·.dst)) s.tm o.guard = .run e → Region.wanted o (yielded ops.toArray a.tmps) = e) ∧ (guardS (fun j => (ops.toArray[j]?).bind (·.dst)) s.tm o.guard = .skip → Region.wanted o (yielded ops.toArray a.tmps) = false) := fun M a hf =>
      guardS_ok (M := M) (w := default) fun j want t hgu ht d hd => hf t (by
        unfold looks
        rw [hgu]
        have ht : (ops[j]?).bind (·.dst) = some t := by simpa using ht
        simp only [ht]
        simp) d hd
    have hconv : guardS (fun j => (ops.toArray[j]?).bind (·.dst)) s.tm o.guard = guardS (fun j => (ops[j]?).bind (·.dst)) s.tm o.guard := by simp
    cases hg : guardS (hAt h) s.tm o.guard with
    | bad => rw [hg] at hs; exact hs.elim
    | skip =>
      have hg2 := hgs_ok ho hh (tm := s.tm) (by rw [hg]; simp)
      rw [hg] at hs hg2
      refine fin .un _ ⟨by cases o.dst <;> rfl, by cases o.dst <;> rfl, by cases o.dst <;> rfl, by cases o.dst <;> rfl, hs.1, rfl, fun _ => by cases o.dst <;> rfl, fun _ => by cases o.dst <;> exact HLe.refl _, fun r M w a h hrl hr hh2 hh3 hsz hf next Q hn => ?_⟩ hs.2
      rw [(hguard M a hf).2 (hconv.trans hg2)]
      refine ⟨fun _ _ => trivial, hn M w undef ?_ .un (Ext.refl M w)⟩
      cases hb : isBig o.op with
      | false => exact hr
      | true =>
        have hhy : heapy o.op = true := by
          revert hb
          cases o.op <;> simp [isBig, heapy]
        have := hh2 hb
        subst this
        cases o.dst <;> exact hr
    | run e =>
      have hg2 := hgs_ok ho hh (tm := s.tm) (by rw [hg]; simp)
      rw [hg] at hs hg2
      by_cases hme : md = true ∧ e = false
      · obtain ⟨rfl, rfl⟩ := hme
        have hs := hs.1 rfl
        refine fin (.gd false (.lit (.bool false))) _ ⟨by cases o.dst <;> rfl, by cases o.dst <;> rfl, by cases o.dst <;> rfl, by cases o.dst <;> rfl, hs.1, rfl, fun _ => by cases o.dst <;> rfl, fun _ => by cases o.dst <;> exact HLe.refl _, fun r M w a h hrl hr hh2 hh3 hsz hf next Q hn => ?_⟩ hs.2
        rw [(hguard M a hf).1 false (hconv.trans hg2)]
        refine ⟨fun _ _ => trivial, hn M w undef ?_ (nb_R M) (Ext.refl M w)⟩
        cases hb : isBig o.op with
        | false => exact hr
        | true =>
          have hhy : heapy o.op = true := by
            revert hb
            cases o.op <;> simp [isBig, heapy]
          have := hh2 hb
          subst this
          cases o.dst <;> exact hr
      · have hs2 : stepDW P tb e o s (fun s' => drawW md P rl tb so (h ++ [o.dst]) (rest ++ l2) s' K) := by
          cases md with
          | false => exact hs
          | true =>
            cases e with
            | true => exact hs.2 rfl
            | false => exact absurd ⟨rfl, rfl⟩ hme
        obtain ⟨d, s', h1, h2⟩ := step_ok (ops := ops) (fun M a hf => (hguard M a hf).1 e (hconv.trans hg2)) (guardS_gOk hg) (stepDW_ok ht hs2)
        exact fin d s' h2 h1

theorem isStore_spec {o : Oper} (h : isStore o = true) : ∃ t x y, o.op = .store t x y ∧ o.guard = none ∧ o.dst = none := by
  unfold isStore at h
  split at h
  · exact ⟨_, _, _, by assumption, by assumption, by assumption⟩
  · cases h

/-- A store, done. -/
theorem store_step {P : Program} {rl : Option Nat} {ops : List Oper} {o : Oper} {s : S} {t : TypeId} {x y : Operand} (hop : o.op = .store t x y) (hgu : o.guard = none) (hdst : o.dst = none) {hp' : List (Nat × Blk)} {d : D}
    (hb : bigL P s.hp s.nx s.uv o.op = some (d, hp', s.nx)) (ho : strictO s.val o.op.operands.toList ∧ bigO P s.hp s.uv o.op) : StepOK P rl ops o s d { s with hp := hp' } := by
  refine ⟨rfl, rfl, rfl, rfl, by rw [hdst]; trivial, by rw [hdst]; rfl, fun hf => by rw [hop] at hf; simp [isBig] at hf, fun ha => by rw [hop] at ha; simp [isAl] at ha, fun r M w a h hrl hr hh hh3 hsz hf next Q hn => ?_⟩
  have hw : Region.wanted o (yielded ops.toArray a.tmps) = true := by unfold Region.wanted; rw [hgu]
  rw [if_pos hw]
  have := hh (by rw [hop]; rfl)
  subst this
  rw [show isBig o.op = true by rw [hop]; rfl] at hn
  exact did_next (by rw [hop]; simp) (big_ok hb ho.2 M w hr a.eval (uv_facts hf ho.1) o rfl) next Q fun M' w' v g1 g2 g3 => hn M' w' v g1 g2 g3

theorem stepDW_store {P : Program} {tb : Tb} {o : Oper} {s : S} {K : S → Prop} {t : TypeId} {x y : Operand} (hop : o.op = .store t x y) (hdst : o.dst = none) (h : stepDW P tb true o s K) :
    ∃ ti l oo ty op ds, tiOf P t = some ti ∧ s.uv x = .pt l oo ∧ lk s.hp l = some (.cells ty op ds) ∧ (strictO s.val o.op.operands.toList ∧ bigO P s.hp s.uv o.op) ∧ K { s with hp := up s.hp l (.cells ty op (ds.take oo ++ cellsD (s.uv y) ++ ds.drop (oo + ti.size))) } := by
  unfold stepDW at h
  rw [hop] at h
  simp only at h
  have h := h.2
  unfold bigS at h
  rw [hop] at h
  simp only [bigL] at h
  split at h
  · rename_i d hp' nx' hd
    obtain ⟨q1, q2, q3, q4⟩ := h.1 trivial
    split at hd
    case h_2 => cases hd
    rename_i ti l oo hti hx
    split at hd
    case h_2 => cases hd
    rename_i ty op ds hl
    cases hd
    rw [hdst] at q4
    exact ⟨ti, l, oo, ty, op, ds, hti, hx, hl, by rw [hop]; exact ⟨q1, q2⟩, q4⟩
  · cases h.1

theorem w_drawW {md : Bool} {P : Program} {rl : Option Nat} {I : Gh} {tb : Tb} (ht : TbOk P tb) {Q : X → S → Prop} {s : S} {id : Nat} {l : List Oper} (hm : P.follows .mixedOrders = true) (ho : orderT l = true) (h : drawW md P rl tb (orderOk l) [] l s (Q .normal)) : W P rl I (.region id l.toArray true) Q s := by
  -- the chain of states, and the last two stores the other way round
  have key : ∃ (tl : Bool) (sB : S) (st : Nat → S) (val : Nat → D), orderB tl l = true ∧ st 0 = s ∧ Q .normal (st l.length) ∧ (∀ (i : Nat) (o : Oper), l[i]? = some o → StepOK P rl l o (st i) (val i) (st (i + 1))) ∧ (tl = true → TailOK P rl l st val sB) := by
    have plain : orderOk l = true → ∃ (tl : Bool) (sB : S) (st : Nat → S) (val : Nat → D), orderB tl l = true ∧ st 0 = s ∧ Q .normal (st l.length) ∧ (∀ (i : Nat) (o : Oper), l[i]? = some o → StepOK P rl l o (st i) (val i) (st (i + 1))) ∧ (tl = true → TailOK P rl l st val sB) := fun hq => by
      obtain ⟨st, val, h1, h2, h3⟩ := drawW_chain ht (ops := l) l [] [] [] s (by simp) rfl (by simpa using h)
      simp only [List.length_nil, Nat.zero_add] at h1 h2 h3
      unfold drawW at h2
      exact ⟨false, s, st, val, hq, h1, h2, fun i o hi => h3 i o (Nat.zero_le _) (List.getElem?_eq_some_iff.1 hi).1 hi, fun q => by cases q⟩
    by_cases hq : orderOk l = true
    · exact plain hq
    cases htp : tailPair l with
    | false => exact absurd (by unfold orderT at ho; rw [htp] at ho; exact ho) hq
    | true =>
      unfold orderT at ho
      rw [htp] at ho
      unfold tailPair at htp
      split at htp
      case h_2 => cases htp
      rename_i a b hab
      simp only [Bool.and_eq_true] at htp
      obtain ⟨ta, xa, ya, a1, a2, a3⟩ := isStore_spec htp.1
      obtain ⟨tb', xb, yb, b1, b2, b3⟩ := isStore_spec htp.2
      have hlen : l.length - 2 + 2 = l.length := by
        have := congrArg List.length hab
        simp at this
        omega
      obtain ⟨pre, hpre⟩ : ∃ pre, l = pre ++ [a, b] := ⟨l.take (l.length - 2), by rw [← hab, List.take_append_drop]⟩
      have hpl : l.length = pre.length + 2 := by rw [hpre]; simp
      obtain ⟨st, val, h1, h2, h3⟩ := drawW_chain ht (ops := l) pre [a, b] [] [] s (by simpa using hpre) rfl (by rw [← hpre]; exact h)
      simp only [List.length_nil, Nat.zero_add] at h1 h2 h3
      have so : orderOk l = false := by simpa using hq
      rw [so] at h2
      unfold drawW at h2
      obtain ⟨hc, h2⟩ := h2
      rw [a2] at h2
      have h2 := runM_true h2
      obtain ⟨tia, la, oa, tya, opa, dsa, ea1, ea2, ea3, ea4, h2⟩ := stepDW_store a1 a3 h2
      unfold drawW at h2
      have h2 := h2.2
      rw [b2] at h2
      have h2 := runM_true h2
      obtain ⟨tib, lb, ob, tyb, opb, dsb, eb1, eb2, eb3, eb4, h2⟩ := stepDW_store b1 b3 h2
      unfold drawW at h2
      have huv : ∀ (hp : List (Nat × Blk)) x, ({ st pre.length with hp := hp } : S).uv x = (st pre.length).uv x := fun _ _ => rfl
      have hva : ∀ (hp : List (Nat × Blk)), ({ st pre.length with hp := hp } : S).val = (st pre.length).val := fun _ => rfl
      rw [huv] at eb2
      have hne : la ≠ lb := by
        unfold tailC at hc
        simp only [a1, b1, ea2, eb2] at hc
        exact hc.resolve_right (by simp)
      have eb3' : lk (st pre.length).hp lb = some (.cells tyb opb dsb) := by
        have := eb3
        simp only [lk_up] at this
        rwa [if_neg hne] at this
      have oka : l[pre.length]? = some a := by rw [hpre]; simp
      have okb : l[pre.length + 1]? = some b := by rw [hpre]; simp
      let ka : Blk := .cells tya opa (dsa.take oa ++ cellsD ((st pre.length).uv ya) ++ dsa.drop (oa + tia.size))
      let kb : Blk := .cells tyb opb (dsb.take ob ++ cellsD ((st pre.length).uv yb) ++ dsb.drop (ob + tib.size))
      have hbA : ∀ hp, lk hp la = some (.cells tya opa dsa) → bigL P hp (st pre.length).nx (st pre.length).uv a.op = some (.un, up hp la ka, (st pre.length).nx) := fun hp hl => by rw [a1]; simp only [bigL, ea1, ea2, hl]; rfl
      have hbB : ∀ hp, lk hp lb = some (.cells tyb opb dsb) → bigL P hp (st pre.length).nx (st pre.length).uv b.op = some (.un, up hp lb kb, (st pre.length).nx) := fun hp hl => by rw [b1]; simp only [bigL, eb1, eb2, hl]; rfl
      have hoA : ∀ hp, lk hp la = some (.cells tya opa dsa) → bigO P hp (st pre.length).uv a.op := fun hp hl => by
        have := ea4.2
        rw [a1] at this ⊢
        simp only [bigO, ea1, ea2, ea3] at this
        simp only [bigO, ea1, ea2, hl]
        exact this
      have hoB : ∀ hp, lk hp lb = some (.cells tyb opb dsb) → bigO P hp (st pre.length).uv b.op := fun hp hl => by
        have := eb4.2
        rw [b1] at this ⊢
        have e2 : ({ st pre.length with hp := up (st pre.length).hp la ka } : S).uv xb = .pt lb ob := eb2
        simp only [bigO, eb1] at this ⊢
        have this : (match (some tib : Option Go.Aw.TI), (st pre.length).uv xb with
          | some ti, .pt l o => okX ((st pre.length).uv yb) = true ∧ (cellsD ((st pre.length).uv yb)).length = ti.size ∧ (match lk (up (st pre.length).hp la ka) l with
            | some (.cells _ _ ds) => o + ti.size ≤ ds.length
            | _ => False)
          | _, _ => False) := this
        rw [eb2] at this ⊢
        have eb3 : lk (up (st pre.length).hp la ka) lb = some (.cells tyb opb dsb) := eb3
        simp only [eb3] at this
        simp only [hl]
        exact this
      have sa : strictO (st pre.length).val a.op.operands.toList := ea4.1
      have sb : strictO (st pre.length).val b.op.operands.toList := eb4.1
      let s1 : S := { st pre.length with hp := up (st pre.length).hp la ka }
      let s2 : S := { st pre.length with hp := up s1.hp lb kb }
      let sB : S := { st pre.length with hp := up (st pre.length).hp lb kb }
      let sE : S := { st pre.length with hp := up sB.hp la ka }
      have stepA : StepOK P rl l a (st pre.length) .un s1 := store_step a1 a2 a3 (hbA _ ea3) ⟨sa, hoA _ ea3⟩
      have stepB : StepOK P rl l b s1 .un s2 := store_step (s := s1) b1 b2 b3 (hbB _ eb3) ⟨sb, hoB _ eb3⟩
      have stepB' : StepOK P rl l b (st pre.length) .un sB := store_step b1 b2 b3 (hbB _ eb3') ⟨sb, hoB _ eb3'⟩
      have ea3' : lk sB.hp la = some (.cells tya opa dsa) := by
        show lk (up (st pre.length).hp lb kb) la = _
        rw [lk_up, if_neg (fun e => hne e.symm)]
        exact ea3
      have stepA' : StepOK P rl l a sB .un sE := store_step (s := sB) a1 a2 a3 (hbA _ ea3') ⟨sa, hoA _ ea3'⟩
      let st' : Nat → S := fun i => if i = pre.length + 1 then s1 else if i = pre.length + 2 then s2 else st i
      let val' : Nat → D := fun i => if i < pre.length then val i else .un
      refine ⟨true, sB, st', val', ho, ?_, ?_, fun i o hi => ?_, fun _ => ⟨by omega, fun j o hj hjj => ?_, fun j o hj hjj => ?_, fun j o hj hjj => ?_, fun j o hj hjj => ?_⟩⟩
      · show (if 0 = pre.length + 1 then s1 else if 0 = pre.length + 2 then s2 else st 0) = s
        rw [if_neg (by omega), if_neg (by omega), h1]
      · show Q .normal (if l.length = pre.length + 1 then s1 else if l.length = pre.length + 2 then s2 else st l.length)
        rw [if_neg (by omega), if_pos hpl]
        exact h2
      · have hil := (List.getElem?_eq_some_iff.1 hi).1
        show StepOK P rl l o (if i = pre.length + 1 then s1 else if i = pre.length + 2 then s2 else st i) (if i < pre.length then val i else .un) (if i + 1 = pre.length + 1 then s1 else if i + 1 = pre.length + 2 then s2 else st (i + 1))
        rcases Nat.lt_trichotomy i pre.length with hip | hip | hip
        · rw [if_neg (by omega), if_neg (by omega), if_pos hip, if_neg (by omega), if_neg (by omega)]
          exact h3 i o (Nat.zero_le _) hip hi
        · subst hip
          rw [oka] at hi
          cases hi
          rw [if_neg (by omega), if_neg (by omega), if_neg (by omega), if_pos rfl]
          exact stepA
        · have hip2 : i = pre.length + 1 := by omega
          subst hip2
          rw [okb] at hi
          cases hi
          rw [if_pos rfl, if_neg (by omega), if_neg (by omega), if_pos rfl]
          exact stepB
      · rw [show j = pre.length + 1 by omega, okb] at hj
        cases hj
        rw [b1]; rfl
      · rcases hjj with hjj | hjj
        · rw [show j = pre.length by omega, oka] at hj
          cases hj
          rw [a1]; rfl
        · rw [show j = pre.length + 1 by omega, okb] at hj
          cases hj
          rw [b1]; rfl
      · have hj' : j = pre.length + 1 := by omega
        subst hj'
        rw [okb] at hj
        cases hj
        have e1 : st' (l.length - 2) = st pre.length := by
          show (if l.length - 2 = pre.length + 1 then s1 else if l.length - 2 = pre.length + 2 then s2 else st (l.length - 2)) = _
          rw [if_neg (by omega), if_neg (by omega), show l.length - 2 = pre.length by omega]
        have e2 : val' (pre.length + 1) = .un := if_neg (by omega)
        rw [e1, e2]
        exact stepB'
      · have hj' : j = pre.length := by omega
        subst hj'
        rw [oka] at hj
        cases hj
        have e1 : st' l.length = s2 := by
          show (if l.length = pre.length + 1 then s1 else if l.length = pre.length + 2 then s2 else st l.length) = _
          rw [if_neg (by omega), if_pos hpl]
        have e2 : val' pre.length = .un := if_neg (by omega)
        rw [e1, e2]
        refine ⟨sE, stepA', fun m => ?_, rfl⟩
        show (toT (up (up (st pre.length).hp la ka) lb kb)).get m = (toT (up (up (st pre.length).hp lb kb) la ka)).get m
        simp only [get_toT, lk_up]
        by_cases h1 : lb = m
        · rw [if_pos h1, if_neg (fun e => hne (e.trans h1.symm)), if_pos h1]
        · rw [if_neg h1, if_neg h1]
  obtain ⟨tl, sB, st, val, ho, h1, h2, h3, h4⟩ := key
  intro r M w a zs hrl hr hgh
  obtain ⟨as, hg⟩ := ord_ok ho
  refine wpIn_region_any hm ?_
  obtain ⟨d1, d2⟩ := hr.h.drawn (w.drawn + 1)
  have hf : ∀ j, (Array.replicate l.toArray.size false).getD j false = false := fun j => by
    simp only [Array.getD_eq_getD_getElem?, Array.getElem?_replicate]
    split <;> rfl
  have hgl : (st l.length).g = s.g := by rw [(st_n h3 l.length (Nat.le_refl _)).2.2.1, h1]
  have := drawn_any (r := r) (zs := zs) (tl := tl) (sB := sB) hg h3 h4 (Q := fun e a' w' => ∃ x M' s', RX M' x e ∧ SRep zs M' s' w' a' ∧ I.at s'.g M' w' ∧ RelR M' rl r ∧ Q x s') (M0 := M) (w0 := w)
    (fun M' w' a' g1 g2 g3 => ⟨.normal, M', _, trivial, g1, hgl ▸ hgh.mono g2, g3, h2⟩) l.toArray.size (Array.replicate l.toArray.size false) M { w with drawn := w.drawn + 1 } a
    ⟨by simp, fun i _ hl => (by rw [hf] at hl; cases hl), .inl ⟨0, Nat.zero_le _, by rw [h1]; exact d1, fun j o _ _ => by rw [hf]; simp⟩, fun j o t _ _ hl => (by rw [hf] at hl; cases hl), fun t _ x hx => hr.t t x (by rw [← h1]; exact hx), by rw [h1]; exact hr.sz, by rw [h1]; exact hr.df, by rw [h1]; exact hr.ex⟩
    d2.w (hrl.mono d2.le) (Nat.le_trans List.countP_le_length (by simp))
  exact this
end Go.Ev
