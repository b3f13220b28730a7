/-
  Code, reckoned: pieces put together; how simp reckons them.
-/
import Derived.Test.YthlebppdhipanaaSyO
set_option linter.all false
namespace Go.Ev
open Go.Aw (WF enters tiOf)

def condK (d : D) (A B : Prop) : Prop :=
  match d with
  | .lit (.bool b) => (b = true → A) ∧ (b = false → B)
  | _ => False

/-- What is owed of a piece of code; of loops all that is to be shown. -/
def WP (md : Bool) (P : Program) (rl : Option Nat) (I : Gh) (tb : Tb) : Code → (X → S → Prop) → S → Prop
  | .skip, Q, s => Q .normal s
  | .label _, Q, s => Q .normal s
  | .exit id, Q, s => Q (.exit id) s
  | .ret, Q, s => Q .ret s
  | .seq x y, Q, s => WP md P rl I tb x (X.then (WP md P rl I tb y Q) Q) s
  | .block id c, Q, s => WP md P rl I tb c (X.inBlock id Q) s
  | .cond c x y, Q, s => condK (s.val c) (WP md P rl I tb x Q s) (WP md P rl I tb y Q s)
  | .region _ ops false, Q, s => seqW md P rl I tb [] ops.toList s (Q .normal) (fun d s => Q (.panic d) s)
  | .region _ ops true, Q, s => drawW md P rl tb (orderOk ops.toList) [] ops.toList s (Q .normal)
  | c, Q, s => W P rl I c Q s

def drawsOk : Code → Bool
  | .seq x y => drawsOk x && drawsOk y
  | .block _ c => drawsOk c
  | .cond _ x y => drawsOk x && drawsOk y
  | .region _ ops true => orderT ops.toList
  | _ => true

theorem wp_md {md : Bool} {P : Program} {rl : Option Nat} {I : Gh} {tb : Tb} (ht : TbOk P tb) (hm : P.follows .mixedOrders = true) : ∀ (c : Code) (Q : X → S → Prop) (s : S), drawsOk c = true → WP md P rl I tb c Q s → W P rl I c Q s
  | .skip, Q, s, _, h => w_skip h
  | .label _, Q, s, _, h => w_label h
  | .exit id, Q, s, _, h => w_exit h
  | .ret, Q, s, _, h => w_ret h
  | .seq x y, Q, s, hd, h => by
    simp only [drawsOk, Bool.and_eq_true] at hd
    refine w_seq ((wp_md ht hm x _ s hd.1 h).mono fun e s' h' => ?_)
    cases e with
    | normal => exact wp_md ht hm y Q s' hd.2 h'
    | _ => exact h'
  | .block id c, Q, s, hd, h => w_block (wp_md ht hm c _ s hd h)
  | .cond c x y, Q, s, hd, h => by
    simp only [drawsOk, Bool.and_eq_true] at hd
    simp only [WP, condK] at h
    split at h
    · rename_i b hb
      exact w_cond b hb (fun q => wp_md ht hm x Q s hd.1 (h.1 q)) (fun q => wp_md ht hm y Q s hd.2 (h.2 q))
    · exact h.elim
  | .region id ops false, Q, s, _, h => w_regionW (l := ops.toList) ht h
  | .region id ops true, Q, s, hd, h => w_drawW ht hm hd h
  | .loop _, _, _, _, h => h
  | .rangeFunc _ _ _ _, _, _, _, h => h
  | .goto _, _, _, _, h => h
  | .scope _, _, _, _, h => h
  | .refuse _, _, _, _, h => h
theorem wp_ok {P : Program} {rl : Option Nat} {I : Gh} {tb : Tb} (ht : TbOk P tb) (hm : P.follows .mixedOrders = true) (c : Code) (Q : X → S → Prop) (s : S) (hd : drawsOk c = true) (h : WP false P rl I tb c Q s) : W P rl I c Q s := wp_md ht hm c Q s hd h
/-- By cases, where a guard is not known. -/
theorem wx_ok {P : Program} {rl : Option Nat} {I : Gh} {tb : Tb} (ht : TbOk P tb) (hm : P.follows .mixedOrders = true) (c : Code) (Q : X → S → Prop) (s : S) (hd : drawsOk c = true) (h : WP true P rl I tb c Q s) : W P rl I c Q s := wp_md ht hm c Q s hd h

/-- A pure function, its body reckoned. -/
theorem fnO_wp {P : Program} {tb : Tb} (ht : TbOk P tb) (hm : P.follows .mixedOrders = true) {g : FuncId} {fn : Func} {c : Code} (hf : P.funcs[g]? = some fn) (hb : fn.body = some c) (he : enters P g = true) {args : List D} {o : Out} (hn : args.length ≤ fn.ntmps) (hd : drawsOk c = true)
    (h : ∀ I, WP false P none I tb c (leavesK P fn (fun d s => ∃ d', Seals s.hp d d' ∧ o = .ret d') (fun d s => ∃ d', Seals s.hp d d' ∧ o = .pan d')) (start fn.ntmps args none)) : FnO P g args o :=
  fnO_of hf hb he hn fun I => wp_ok ht hm _ _ _ hd (h I)
theorem fnO_wx {P : Program} {tb : Tb} (ht : TbOk P tb) (hm : P.follows .mixedOrders = true) {g : FuncId} {fn : Func} {c : Code} (hf : P.funcs[g]? = some fn) (hb : fn.body = some c) (he : enters P g = true) {args : List D} {o : Out} (hn : args.length ≤ fn.ntmps) (hd : drawsOk c = true)
    (h : ∀ I, WP true P none I tb c (leavesK P fn (fun d s => ∃ d', Seals s.hp d d' ∧ o = .ret d') (fun d s => ∃ d', Seals s.hp d d' ∧ o = .pan d')) (start fn.ntmps args none)) : FnO P g args o :=
  fnO_of hf hb he hn fun I => wx_ok ht hm _ _ _ hd (h I)

theorem fnG_wp {P : Program} {tb : Tb} (ht : TbOk P tb) (hm : P.follows .mixedOrders = true) {I : Gh} {g : FuncId} {fn : Func} {c : Code} (hf : P.funcs[g]? = some fn) (hb : fn.body = some c) (he : enters P g = true) {args : List D} {k : Option Nat} {K : D → Option Nat → Prop} (hn : args.length ≤ fn.ntmps) (hd : drawsOk c = true)
    (h : ∀ I', I.fr I' → WP false P none I' tb c (leavesK P fn (fun d s => D.bel 0 d = true ∧ K d s.g) (fun _ _ => False)) (start fn.ntmps args k)) : FnG P I g args k K :=
  fnG_of hf hb he hn fun own f0 w0 => wp_ok ht hm _ _ _ hd (h _ ⟨own, f0, w0, rfl⟩)
/-! ### Tables -/
/-- No function. -/
def tb0 : Tb := fun _ _ => none
theorem tb0_ok (P : Program) : TbOk P tb0 := fun _ _ _ _ h => by cases h

/-- One more function. -/
def tbC (g : FuncId) (f : List D → Option (Prop × D)) (tb : Tb) : Tb := fun g' as => if g' = g then f as else tb g' as

theorem tbC_ok {P : Program} {g : FuncId} {f : List D → Option (Prop × D)} {tb : Tb} (h : ∀ as p d, f as = some (p, d) → p → FnO P g as (.ret d) ∧ D.belL 0 as = true ∧ D.bel 0 d = true) (ht : TbOk P tb) : TbOk P (tbC g f tb) := by
  intro g' as p d hp hq
  unfold tbC at hp
  split at hp
  · rename_i hg
    subst hg
    exact h as p d hp hq
  · exact ht g' as p d hp hq

/-- What a function tells of encoded data. -/
noncomputable def ctr {α : Type} (enc : α → List D) (pre : α → Prop) (res : α → D) : List D → Option (Prop × D) := fun as => by
  classical
  exact if h : ∃ a, enc a = as then some (pre h.choose, res h.choose) else none

theorem ctr_enc {α : Type} {enc : α → List D} {pre : α → Prop} {res : α → D} (hi : ∀ a b, enc a = enc b → a = b) (a : α) : ctr enc pre res (enc a) = some (pre a, res a) := by
  unfold ctr
  have h : ∃ b, enc b = enc a := ⟨a, rfl⟩
  rw [dif_pos h]
  have := hi _ _ h.choose_spec
  rw [this]

theorem ctr_ok {P : Program} {g : FuncId} {α : Type} {enc : α → List D} {pre : α → Prop} {res : α → D} (h : ∀ a, pre a → FnO P g (enc a) (.ret (res a)) ∧ D.belL 0 (enc a) = true ∧ D.bel 0 (res a) = true) : ∀ as p d, ctr enc pre res as = some (p, d) → p → FnO P g as (.ret d) ∧ D.belL 0 as = true ∧ D.bel 0 d = true := by
  intro as p d hp hq
  unfold ctr at hp
  split at hp
  · rename_i hex
    cases hp
    have := h _ hq
    rwa [hex.choose_spec] at this
  · cases hp

/-! ### How simp reckons -/
section
variable {md : Bool} {P : Program} {rl : Option Nat} {I : Gh} {tb : Tb} {e e' : Bool} {o : Oper} {s : S} {K : S → Prop} {Kp : D → S → Prop} {Q : X → S → Prop} {so : Bool}

@[congr] theorem condK_congr {d d' : D} {A B : Prop} (h : d = d') : condK d A B = condK d' A B := by rw [h]
theorem condK_lit {b : Bool} {A B : Prop} : condK (.lit (.bool b)) A B = ((b = true → A) ∧ (b = false → B)) := rfl
@[congr] theorem WP_congr {c : Code} {s s' : S} (h : s = s') : WP md P rl I tb c Q s = WP md P rl I tb c Q s' := by rw [h]
theorem wp_skip_eq : WP md P rl I tb .skip Q s = Q .normal s := rfl
theorem wp_exit_eq {i : Nat} : WP md P rl I tb (.exit i) Q s = Q (.exit i) s := rfl
theorem wp_ret_eq : WP md P rl I tb .ret Q s = Q .ret s := rfl
theorem wp_seq_eq {x y : Code} : WP md P rl I tb (.seq x y) Q s = WP md P rl I tb x (X.then (WP md P rl I tb y Q) Q) s := rfl
theorem wp_block_eq {i : Nat} {x : Code} : WP md P rl I tb (.block i x) Q s = WP md P rl I tb x (X.inBlock i Q) s := rfl
theorem wp_cond_eq {c : Operand} {x y : Code} : WP md P rl I tb (.cond c x y) Q s = condK (ev (s.val c)) (WP md P rl I tb x Q s) (WP md P rl I tb y Q s) := by rw [ev_eq]; rfl
theorem wp_region_eq {i : Nat} {l : List Oper} : WP md P rl I tb (.region i l.toArray false) Q s = seqW md P rl I tb [] l s (Q .normal) (fun d s => Q (.panic d) s) := rfl
theorem wp_drawn_eq {i : Nat} {l : List Oper} : WP md P rl I tb (.region i l.toArray true) Q s = drawW md P rl tb (orderOk l) [] l s (Q .normal) := rfl
theorem wp_loop_eq {x : Code} : WP md P rl I tb (.loop x) Q s = W P rl I (.loop x) Q s := rfl
theorem wp_range_eq {g : Operand} {ps : Array Tmp} {x y : Code} : WP md P rl I tb (.rangeFunc g ps x y) Q s = W P rl I (.rangeFunc g ps x y) Q s := rfl

theorem runM_run {A : Bool → Prop} {B C : Prop} : runM false (.run e) A B C = A e := rfl
theorem runM_skip {A : Bool → Prop} {B C : Prop} : runM md .skip A B C = B := rfl
theorem runM_yes {A : Bool → Prop} {B C : Prop} : runM true (.run true) A B C = A true := by simp [runM]
theorem runM_no {A : Bool → Prop} {B C : Prop} : runM true (.run false) A B C = C := by simp [runM]
@[congr] theorem runM_congr {g g' : GS} {A : Bool → Prop} {B C : Prop} (h : g = g') : runM md g A B C = runM md g' A B C := by rw [h]
theorem seqW_nil {h : List (Option Tmp)} : seqW md P rl I tb h [] s K Kp = K s := rfl
theorem seqW_step {h : List (Option Tmp)} {rest : List Oper} {n : Nat} {tm : List (Nat × D)} {hp : List (Nat × Blk)} {nx : Nat} {df : List Nat} {g : Option Nat} {ex : List D} : seqW md P rl I tb h (o :: rest) ⟨n, tm, hp, nx, df, g, ex⟩ K Kp = (noPanic o.op = true ∧ runM md (ev (guardS (hAt h) tm o.guard)) (fun e => stepW P rl I tb e o ⟨n, tm, hp, nx, df, g, ex⟩ (fun s' => seqW md P rl I tb (h ++ [o.dst]) rest s' K Kp) Kp) ((S.mk n tm hp nx df g ex).room o.dst ∧ seqW md P rl I tb (h ++ [o.dst]) rest (ev ((S.mk n tm hp nx df g ex).put o.dst .un)) K Kp) ((S.mk n tm hp nx df g ex).room o.dst ∧ seqW md P rl I tb (h ++ [o.dst]) rest (ev ((S.mk n tm hp nx df g ex).put o.dst (.gd false (.lit (.bool false))))) K Kp)) := by
  rw [ev_eq, ev_eq, ev_eq]; rfl
theorem drawW_nil {h : List (Option Tmp)} : drawW md P rl tb so h [] s K = K s := rfl
theorem drawW_step {h : List (Option Tmp)} {rest : List Oper} {n : Nat} {tm : List (Nat × D)} {hp : List (Nat × Blk)} {nx : Nat} {df : List Nat} {g : Option Nat} {ex : List D} : drawW md P rl tb so h (o :: rest) ⟨n, tm, hp, nx, df, g, ex⟩ K = (tailC so ⟨n, tm, hp, nx, df, g, ex⟩ (o :: rest) ∧ runM md (ev (guardS (hAt h) tm o.guard)) (fun e => stepDW P tb e o ⟨n, tm, hp, nx, df, g, ex⟩ (fun s' => drawW md P rl tb so (h ++ [o.dst]) rest s' K)) ((S.mk n tm hp nx df g ex).room o.dst ∧ drawW md P rl tb so (h ++ [o.dst]) rest (ev ((S.mk n tm hp nx df g ex).put o.dst .un)) K) ((S.mk n tm hp nx df g ex).room o.dst ∧ drawW md P rl tb so (h ++ [o.dst]) rest (ev ((S.mk n tm hp nx df g ex).put o.dst (.gd false (.lit (.bool false))))) K)) := by
  rw [ev_eq, ev_eq, ev_eq]; rfl
@[congr] theorem seqW_congr {h h' : List (Option Tmp)} {l : List Oper} {s s' : S} (hs : s = s') (hh : h = h') : seqW md P rl I tb h l s K Kp = seqW md P rl I tb h' l s' K Kp := by rw [hs, hh]
@[congr] theorem drawW_congr {h h' : List (Option Tmp)} {l : List Oper} {s s' : S} (hs : s = s') (hh : h = h') : drawW md P rl tb so h l s K = drawW md P rl tb so h' l s' K := by rw [hs, hh]
@[congr] theorem stepW_congr {s s' : S} (h : s = s') (he : e = e') : stepW P rl I tb e o s K Kp = stepW P rl I tb e' o s' K Kp := by rw [h, he]
@[congr] theorem stepDW_congr {s s' : S} (h : s = s') (he : e = e') : stepDW P tb e o s K = stepDW P tb e' o s' K := by rw [h, he]
@[congr] theorem tailC_congr {l : List Oper} {s s' : S} (h : s = s') : tailC so s l = tailC so s' l := by rw [h]
@[congr] theorem callW_congr {f f' : D} {a a' : List D} {sp : Prop} {g : Option (Nat × Bool)} {dst : Option Tmp} (h : f = f') (h2 : a = a') : callW P rl I tb e f a sp g dst s K Kp = callW P rl I tb e f' a' sp g dst s K Kp := by rw [h, h2]
@[congr] theorem callDW_congr {f f' : D} {a a' : List D} {sp : Prop} {g : Option (Nat × Bool)} {dst : Option Tmp} (h : f = f') (h2 : a = a') : callDW P tb e f a sp g dst s K = callDW P tb e f' a' sp g dst s K := by rw [h, h2]
@[congr] theorem tbK_congr {v v' : Option (Prop × D)} {f : Prop → D → Prop} {no : Prop} (h : v = v') : tbK v f no = tbK v' f no := by rw [h]
theorem tbK_some {p : Prop} {d : D} {f : Prop → D → Prop} {no : Prop} : tbK (some (p, d)) f no = f p d := rfl
theorem tbK_none {f : Prop → D → Prop} {no : Prop} : tbK none f no = no := rfl
theorem callW_no {f : D} {args : List D} {sp : Prop} {g : Option (Nat × Bool)} {dst : Option Tmp} : callW P rl I tb false f args sp g dst s K Kp = (s.room dst ∧ K (ev (s.put dst (mkd g false (.lit (.bool false)))))) := by simp only [ev_eq]; rfl
theorem callW_fn {gg : FuncId} {first caps args : List D} {sp : Prop} {g : Option (Nat × Bool)} {dst : Option Tmp} : callW P rl I tb true (.fn (.func gg) first caps) args sp g dst s K Kp =
    tbK (ev (tb gg (first ++ (args ++ caps)))) (fun p d => (sp ∧ p) ∧ s.room dst ∧ K (ev (s.put dst (mkd g true d)))) (CallS P rl I true (.fn (.func gg) first caps) args sp g dst s K Kp) := by simp only [ev_eq]; rfl
theorem callW_con {v : Value} {args : List D} {sp : Prop} {g : Option (Nat × Bool)} {dst : Option Tmp} : callW P rl I tb true (.con v) args sp g dst s K Kp = CallS P rl I true (.con v) args sp g dst s K Kp := rfl
theorem callDW_no {f : D} {args : List D} {sp : Prop} {g : Option (Nat × Bool)} {dst : Option Tmp} : callDW P tb false f args sp g dst s K = (s.room dst ∧ K (ev (s.put dst (mkd g false (.lit (.bool false)))))) := by simp only [ev_eq]; rfl
theorem callDW_fn {gg : FuncId} {first caps args : List D} {sp : Prop} {g : Option (Nat × Bool)} {dst : Option Tmp} : callDW P tb true (.fn (.func gg) first caps) args sp g dst s K =
    tbK (ev (tb gg (first ++ (args ++ caps)))) (fun p d => (sp ∧ p) ∧ s.room dst ∧ K (ev (s.put dst (mkd g true d)))) (callQ P true (.fn (.func gg) first caps) args sp g dst s K) := by simp only [ev_eq]; rfl
theorem tbC_same {g : FuncId} {f : List D → Option (Prop × D)} {as : List D} : tbC g f tb g as = f as := if_pos rfl
theorem tbC_other {g g' : FuncId} {f : List D → Option (Prop × D)} {as : List D} (h : g' ≠ g) : tbC g f tb g' as = tb g' as := if_neg h
theorem tb0_eq {g : FuncId} {as : List D} : tb0 g as = none := rfl
end

attribute [simp ↓] stepW.eq_def stepDW.eq_def wp_skip_eq wp_exit_eq wp_ret_eq wp_seq_eq wp_block_eq wp_cond_eq wp_region_eq wp_drawn_eq wp_loop_eq wp_range_eq callW_no callDW_no runM_run runM_skip runM_yes runM_no seqW_nil drawW_nil condK_lit tbK_some tbK_none
attribute [simp] seqW_step drawW_step tailC.eq_def callW_fn callW_con callDW_fn tbC_same tbC_other tb0_eq Bool.and_eq_true
end Go.Ev
