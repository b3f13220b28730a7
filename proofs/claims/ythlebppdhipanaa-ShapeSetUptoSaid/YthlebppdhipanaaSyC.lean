/-
  Every operation that leaves memory as it is; values that are there under a guard alone.
-/
import Derived.Test.YthlebppdhipanaaSyB
set_option linter.all false
namespace Go.Ev
open Go.Aw (litOk Z TK TI kOf tiOf TIs tiOf_spec WF addr_add und_sl und_str und_arr sB sB_length fieldsOf fieldsOf_spec)

def nilV : D → Option D
  | .ps q r o => some (.ps q r o)
  | x => nilE x

def fieldAddrV (P : Program) (t : TypeId) (x : D) (f : Nat) : Option D :=
  match x with
  | .ps q row o => (match fieldsOf P t f with
    | some (off, ti) => if 0 < ti.size then some (.ps q row (o + off)) else none
    | none => none)
  | x => fieldAddrE P t x f

theorem fieldAddrV_ok {P : Program} {M : Mem} {w : World} {t : TypeId} {x y : D} {f : Nat} (he : fieldAddrV P t x f = some y) {v : Value} (hv : R M x v) : ∃ q, (Instr.fieldAt t v f).run P w = .ok q w ∧ R M y q := by
  unfold fieldAddrV at he
  split at he
  · rename_i q row o
    split at he
    case h_2 => cases he
    rename_i off ti hf
    split at he
    case isFalse => cases he
    rename_i hc
    cases he
    obtain ⟨F, fl, i, d, z, h1, h2, rfl, h4⟩ := fieldsOf_spec hf
    cases hv with
    | ps _ _ _ b off c V hb hq g1 g2 =>
    refine ⟨.pointer (some ⟨b, off + (o + fl.offset), none⟩), ?_, .ps q row _ b off c V hb hq g1 g2⟩
    simp only [Instr.fieldAt, Instr.sureAddr, fieldPlace, Sem.run_bind, run_underlying h1, Result.andThen_ok, h2, Sem.run_pure, Aw.run_sizeOf h4]
    rw [if_neg (by omega)]
    simp [addr_add, Nat.add_assoc]
  · exact fieldAddr_ok he hv

def convV (P : Program) (src dst : TypeId) (x : D) : Option D :=
  match tiOf P src, tiOf P dst with
  | some _, some td => (match x with
    | .lit (.int _ n) => (match td.k with
      | .int k => some (.lit (.int k (k.wrap n)))
      | .str => some (.lit (.string (Utf8.encode n)))
      | _ => none)
    | .lit (.string s) => (match td.k with
      | .str => some (.lit (.string s))
      | _ => none)
    | _ => none)
  | _, _ => none

def convO (P : Program) (dst : TypeId) (x : D) : Prop :=
  match tiOf P dst with
  | some td => (match x with
    | .lit (.int _ n) => (match td.k with
      | .str => (Utf8.encode n).size ≤ 9223372036854775807
      | _ => True)
    | _ => True)
  | _ => True

theorem convV_ok {P : Program} {src dst : TypeId} {x d : D} (hv : convV P src dst x = some d) (ho : convO P dst x) : convE P src dst x = some d := by
  unfold convV at hv
  unfold convO at ho
  unfold convE
  split at hv
  case h_2 => cases hv
  rename_i ts td h1 h2
  rw [h2] at ho
  simp only [h1, h2]
  split at hv
  · rename_i k n
    split at hv
    · rename_i hk; simp only [hk]; exact hv
    · rename_i hk
      simp only [hk] at ho ⊢
      have : Nat.ble (Utf8.encode n).size 9223372036854775807 = true := by rw [Nat.ble_eq]; exact ho
      rw [this]; exact hv
    · cases hv
  · exact hv
  · cases hv

def callV (P : Program) (f : Operand → D) (b : Builtin) (ts : List TypeId) (xs : List Operand) : Option D :=
  match b, ts, xs with
  | .len, [t], [x] => lenV P t (f x)
  | .cap, [t], [x] => capE P t (f x)
  | .max, _, xs => maxE (xs.map f)
  | .min, _, xs => minE (xs.map f)
  | .unsafeSliceData, _, [x] => sliceDataE (f x)
  | _, _, _ => none

def valS (P : Program) (h : H) (f : Operand → D) : Op → Option D
  | .move x => some (f x)
  | .assign x => some (f x)
  | .load t x => (match tiOf P t with
    | some ti => loadV h ti (f x)
    | none => none)
  | .nilCheck x => nilV (f x)
  | .binOp op t x y _ => binV P h op t (f x) (f y)
  | .unOp op _ x => unE op (f x)
  | .convert src dst x => convV P src dst (f x)
  | .makeInterface t x => (match tiOf P t with
    | some ti => if ti.k = .ifc then none else some (.ifc t (f x))
    | none => none)
  | .makeFunc fn first caps => some (.fn fn (first.toList.map f) (caps.toList.map f))
  | .slice t x lo hi mx => sliceV P t (f x) (lo.map f) (hi.map f) (mx.map f)
  | .fieldAddr t x i => fieldAddrV P t (f x) i
  | .field t x i => fieldE P t (f x) i
  | .indexAddr t x ix => indexAddrV P t (f x) (f ix)
  | .index t x ix => indexV P t (f x) (f ix)
  | .extract x i => (match f x with
    | .tup l => l[i]?
    | _ => none)
  | .build t ps => buildE P t (ps.toList.map fun p => (p.1, f p.2))
  | .call c => (match c.callee with
    | .builtin b => callV P f b c.argTypes.toList c.args.toList
    | _ => none)
  | _ => none

def oblS (P : Program) (h : H) (f : Operand → D) : Op → Prop
  | .load t x => (match tiOf P t with
    | some ti => loadO h ti (f x)
    | none => False)
  | .binOp op _ x y _ => binO op (f x) (f y)
  | .convert _ dst x => convO P dst (f x)
  | .slice _ x lo hi mx => sliceO (f x) (lo.map f) (hi.map f) (mx.map f)
  | .indexAddr _ x ix => indexAddrO (f x) (f ix)
  | .index _ x ix => indexO (f x) (f ix)
  | _ => True

theorem opt_R' {M : Mem} {f : Operand → D} {ρ : Operand → Value} {xs : Array Operand} (x : Option Operand) (hx : ∀ y, x = some y → y ∈ xs) (hf : ∀ x ∈ xs, R M (f x) (ρ x)) : (∀ d, x.map f = some d → ∃ u, x.map ρ = some u ∧ R M d u) ∧ (x.map f = none → x.map ρ = none) := by
  cases x with
  | none => exact ⟨fun d h => by simp at h, fun _ => rfl⟩
  | some y => exact ⟨fun d h => by simp at h; subst h; exact ⟨_, rfl, hf y (hx y rfl)⟩, fun h => by simp at h⟩

theorem quiet_ok {P : Program} {h : H} {f : Operand → D} {op : Op} {d : D} (hv : valS P h f op = some d) (ho : oblS P h f op) : QOp P h f op d := by
  cases op <;> simp only [valS, reduceCtorEq] at hv <;> simp only [oblS] at ho
  case move x => cases hv; exact qop_opE rfl
  case assign x => cases hv; exact qop_opE rfl
  case load t x =>
    cases hti : tiOf P t with
    | none => rw [hti] at hv; cases hv
    | some ti =>
      rw [hti] at hv ho
      exact qop_opE (by simp only [opE, hti, loadV_ok hv ho, Option.map_some])
  case nilCheck x =>
    unfold nilV at hv
    split at hv
    · rename_i q r o hd
      cases hv
      refine qop_val fun M w hr ρ hf op hop => ?_
      have hx := hf x (by simp [Op.operands])
      rw [hd] at hx
      generalize hqq : ρ x = v at hx
      cases hx with
      | ps _ _ _ b off c V g1 g2 g3 g4 => exact ⟨_, by simp only [execOp, hop, hqq, Sem.run_pure], .ps _ _ _ b off c V g1 g2 g3 g4⟩
    · exact qop_opE (by simp only [opE, hv, Option.map_some])
  case binOp op t x y t' => exact binV_ok hv ho
  case unOp op t x => exact qop_opE (by simp only [opE, hv, Option.map_some])
  case convert src dst x => exact qop_opE (by simp only [opE, convV_ok hv ho])
  case makeInterface t x =>
    split at hv
    case h_2 => cases hv
    rename_i ti hti
    split at hv
    · cases hv
    · rename_i hk
      cases hv
      exact qop_opE (by simp only [opE, hti, hk, decide_false, cond_false])
  case makeFunc fn first caps => cases hv; exact qop_opE rfl
  case slice t x lo hi mx =>
    refine qop_val fun M w hr ρ hf op hop => ?_
    have hl := opt_R' lo (fun y hy => by subst hy; simp [Op.operands]) hf
    have hh := opt_R' hi (fun y hy => by subst hy; simp [Op.operands]) hf
    have hm := opt_R' mx (fun y hy => by subst hy; simp [Op.operands]) hf
    obtain ⟨q, h1, h2⟩ := sliceV_ok (w := w) hv ho (hf x (by simp [Op.operands])) hl.1 (fun e => hl.2 (by rw [e])) hh.1 (fun e => hh.2 (by rw [e])) hm.1 (fun e => hm.2 (by rw [e]))
    exact ⟨q, by simp only [execOp, hop, Sem.run_bind, h1, Result.andThen_ok, Sem.run_pure], h2⟩
  case fieldAddr t x i =>
    refine qop_val fun M w hr ρ hf op hop => ?_
    obtain ⟨q, h1, h2⟩ := fieldAddrV_ok (w := w) hv (hf x (by simp [Op.operands]))
    exact ⟨q, by simp only [execOp, hop, Sem.run_bind, h1, Result.andThen_ok, Sem.run_pure], h2⟩
  case field t x i => exact qop_opE (by simp only [opE, hv, Option.map_some])
  case indexAddr t x ix =>
    refine qop_val fun M w hr ρ hf op hop => ?_
    obtain ⟨q, h1, h2⟩ := indexAddrV_ok (w := w) hv ho (hf x (by simp [Op.operands])) (hf ix (by simp [Op.operands]))
    exact ⟨q, by simp only [execOp, hop, Sem.run_bind, h1, Result.andThen_ok, Sem.run_pure], h2⟩
  case index t x ix => exact qop_opE (by simp only [opE, indexV_ok hv ho, Option.map_some])
  case extract x i =>
    split at hv
    case h_2 => cases hv
    rename_i l hl
    exact qop_opE (by simp only [opE, hl, hv, Option.map_some])
  case build t ps => exact qop_opE (by simp only [opE, hv, Option.map_some])
  case call c =>
    split at hv
    case h_2 => cases hv
    rename_i b hb
    unfold callV at hv
    split at hv
    · rename_i t x h1 h2
      refine qop_val fun M w hr ρ hf o hop => ?_
      have hx : x ∈ c.args := Array.mem_toList_iff.1 (by rw [h2]; simp)
      obtain ⟨q, g1, g2⟩ := lenV_ok (w := w) (ty := o.type) hv (hf x (by simp only [Op.operands, Call.operands, hb]; simp [hx]))
      have a1 : c.argTypes = #[t] := by rw [← Array.toArray_toList (xs := c.argTypes), h1]
      have a2 : c.args = #[x] := by rw [← Array.toArray_toList (xs := c.args), h2]
      refine ⟨q, ?_, g2⟩
      simp only [execOp, hop, resolve, hb, invoke, builtin, Sem.run_bind, Sem.run_pure, Result.andThen_ok, a1, a2, List.map_toArray, List.map_cons, List.map_nil, g1]
    · rename_i t x h1 h2; exact qop_opE (by simp only [opE, hb, h1, h2, builtinE, hv, Option.map_some])
    · exact qop_opE (by simp only [opE, hb, builtinE, hv, Option.map_some])
    · exact qop_opE (by simp only [opE, hb, builtinE, hv, Option.map_some])
    · rename_i h1; exact qop_opE (by simp only [opE, hb, h1, builtinE, hv, Option.map_some])
    · cases hv
end Go.Ev
