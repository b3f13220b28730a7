/-
  Code, reckoned by cases, with calls of what lies in a slot in regions that draw their order.
-/
import Derived.Test.YthlebppdhipanaaSyW
import Derived.Test.YthlebppdhipanaaSyX
set_option linter.all false
namespace Go.Ev
open Go.Aw (WF enters tiOf)

/-- A scope out of which no goto goes. -/
def X.noGoto (Q : X → S → Prop) : X → S → Prop
  | .goto _, _ => False
  | e, s => Q e s
theorem w_scope {P : Program} {rl : Option Nat} {I : Gh} {Q : X → S → Prop} {s : S} {c : Code} (h : W P rl I c (X.noGoto Q) s) : W P rl I (.scope c) Q s := by
  intro r M w a zs hrl hr hg
  refine wpIn_scope (wpIn_mono (h r M w a zs hrl hr hg) ?_)
  rintro e a' w' ⟨x, M', s', h1, h2, h3, h4, h5⟩
  cases x with
  | normal => cases e <;> first | exact h1.elim | exact ⟨.normal, M', s', h1, h2, h3, h4, h5⟩
  | exit i => cases e <;> first | exact h1.elim | exact ⟨.exit i, M', s', h1, h2, h3, h4, h5⟩
  | goto l => exact h5.elim
  | ret => cases e <;> first | exact h1.elim | exact ⟨.ret, M', s', h1, h2, h3, h4, h5⟩
  | panic d => cases e <;> first | exact h1.elim | exact ⟨.panic d, M', s', h1, h2, h3, h4, h5⟩
theorem noGoto_normal {Q : X → S → Prop} {s : S} : X.noGoto Q .normal s = Q .normal s := rfl
theorem noGoto_ret {Q : X → S → Prop} {s : S} : X.noGoto Q .ret s = Q .ret s := rfl
theorem noGoto_exit {Q : X → S → Prop} {i : Nat} {s : S} : X.noGoto Q (.exit i) s = Q (.exit i) s := rfl
attribute [simp ↓] noGoto_normal noGoto_ret noGoto_exit

def WY (P : Program) (rl : Option Nat) (I : Gh) (tb : Tb) : Code → (X → S → Prop) → S → Prop
  | .skip, Q, s => Q .normal s
  | .label _, Q, s => Q .normal s
  | .exit id, Q, s => Q (.exit id) s
  | .ret, Q, s => Q .ret s
  | .seq x y, Q, s => WY P rl I tb x (X.then (WY P rl I tb y Q) Q) s
  | .block id c, Q, s => WY P rl I tb c (X.inBlock id Q) s
  | .cond c x y, Q, s => condK (s.val c) (WY P rl I tb x Q s) (WY P rl I tb y Q s)
  | .region _ ops false, Q, s => seqW true P rl I tb [] ops.toList s (Q .normal) (fun d s => Q (.panic d) s)
  | .region _ ops true, Q, s => bif ops.toList.any isDyn then drawS P rl I tb [] ops.toList s (Q .normal) (fun d s => Q (.panic d) s) else drawW true P rl tb (orderOk ops.toList) [] ops.toList s (Q .normal)
  | c, Q, s => W P rl I c Q s

def drawsY : Code → Bool
  | .seq x y => drawsY x && drawsY y
  | .block _ c => drawsY c
  | .cond _ x y => drawsY x && drawsY y
  | .region _ ops true => bif ops.toList.any isDyn then orderOk (ops.toList.take (dynB ops.toList)) && barOk (dynB ops.toList) ops.toList else orderT ops.toList
  | _ => true

section
variable {P : Program} {rl : Option Nat} {I : Gh} {tb : Tb} {o : Oper} {s : S} {K : S → Prop} {Kp : D → S → Prop} {Q : X → S → Prop}
@[congr] theorem WY_congr {c : Code} {s s' : S} (h : s = s') : WY P rl I tb c Q s = WY P rl I tb c Q s' := by rw [h]
theorem wy_skip_eq : WY P rl I tb .skip Q s = Q .normal s := rfl
theorem wy_exit_eq {i : Nat} : WY P rl I tb (.exit i) Q s = Q (.exit i) s := rfl
theorem wy_ret_eq : WY P rl I tb .ret Q s = Q .ret s := rfl
theorem wy_seq_eq {x y : Code} : WY P rl I tb (.seq x y) Q s = WY P rl I tb x (X.then (WY P rl I tb y Q) Q) s := rfl
theorem wy_block_eq {i : Nat} {x : Code} : WY P rl I tb (.block i x) Q s = WY P rl I tb x (X.inBlock i Q) s := rfl
theorem wy_cond_eq {c : Operand} {x y : Code} : WY P rl I tb (.cond c x y) Q s = condK (ev (s.val c)) (WY P rl I tb x Q s) (WY P rl I tb y Q s) := by rw [ev_eq]; rfl
theorem wy_region_eq {i : Nat} {l : List Oper} : WY P rl I tb (.region i l.toArray false) Q s = seqW true P rl I tb [] l s (Q .normal) (fun d s => Q (.panic d) s) := rfl
/-- Which of two: what is chosen by is reckoned alone. -/
def bifP (b : Bool) (A B : Prop) : Prop := bif b then A else B
@[congr] theorem bifP_congr {b b' : Bool} {A B : Prop} (h : b = b') : bifP b A B = bifP b' A B := by rw [h]
theorem bifP_t {A B : Prop} : bifP true A B = A := rfl
theorem bifP_f {A B : Prop} : bifP false A B = B := rfl
theorem wy_drawn_eq {i : Nat} {l : List Oper} : WY P rl I tb (.region i l.toArray true) Q s = bifP (l.any isDyn) (drawS P rl I tb [] l s (Q .normal) (fun d s => Q (.panic d) s)) (drawW true P rl tb (orderOk l) [] l s (Q .normal)) := rfl
theorem wy_loop_eq {x : Code} : WY P rl I tb (.loop x) Q s = W P rl I (.loop x) Q s := rfl
theorem wy_range_eq {g : Operand} {ps : Array Tmp} {x y : Code} : WY P rl I tb (.rangeFunc g ps x y) Q s = W P rl I (.rangeFunc g ps x y) Q s := rfl
theorem drawS_nil {h : List (Option Tmp)} : drawS P rl I tb h [] s K Kp = K s := rfl
theorem drawS_step {h : List (Option Tmp)} {rest : List Oper} {n : Nat} {tm : List (Nat × D)} {hp : List (Nat × Blk)} {nx : Nat} {df : List Nat} {g : Option Nat} {ex : List D} : drawS P rl I tb h (o :: rest) ⟨n, tm, hp, nx, df, g, ex⟩ K Kp = bifP (isDyn o) (seqW true P rl I tb h (o :: rest) ⟨n, tm, hp, nx, df, g, ex⟩ K Kp)
    (tailC true ⟨n, tm, hp, nx, df, g, ex⟩ (o :: rest) ∧ runM true (ev (guardS (hAt h) tm o.guard)) (fun e => stepDW P tb e o ⟨n, tm, hp, nx, df, g, ex⟩ (fun s' => drawS P rl I tb (h ++ [o.dst]) rest s' K Kp)) ((S.mk n tm hp nx df g ex).room o.dst ∧ drawS P rl I tb (h ++ [o.dst]) rest (ev ((S.mk n tm hp nx df g ex).put o.dst .un)) K Kp) ((S.mk n tm hp nx df g ex).room o.dst ∧ drawS P rl I tb (h ++ [o.dst]) rest (ev ((S.mk n tm hp nx df g ex).put o.dst (.gd false (.lit (.bool false))))) K Kp)) := by
  rw [ev_eq, ev_eq, ev_eq]; rfl
@[congr] theorem drawS_congr {h h' : List (Option Tmp)} {l : List Oper} {s s' : S} (hs : s = s') (hh : h = h') : drawS P rl I tb h l s K Kp = drawS P rl I tb h' l s' K Kp := by rw [hs, hh]
end
attribute [simp ↓] wy_skip_eq wy_exit_eq wy_ret_eq wy_seq_eq wy_block_eq wy_cond_eq wy_region_eq wy_drawn_eq wy_loop_eq wy_range_eq drawS_nil bifP_t bifP_f
attribute [simp] drawS_step isDyn.eq_def
end Go.Ev
