/-
  Operations that write memory, or make it: all of them.
-/
import Derived.Test.YthlebppdhipanaaSyE
set_option linter.all false
namespace Go.Ev
open Go.Aw (litOk Z TK TI kOf tiOf TIs tiOf_spec WF addr_add und_sl und_str und_arr sB sB_length halloc_old halloc_new)

def zerosL (ti : TI) (n : Nat) : List D := zerosE ti n

def bigL (P : Program) (hp : List (Nat × Blk)) (nx : Nat) (f : Operand → D) : Op → Option (D × List (Nat × Blk) × Nat)
  | .alloc t => (match tiOf P t with
    | some ti => some (.pt nx 0, up hp nx (.cells t none (ti.z.map zD)), nx + 1)
    | none => none)
  | .box t x => some (.pt nx 0, up hp nx (.cells t none (cellsD (f x))), nx + 1)
  | .buildSlice t n ps => (match tiOf P t with
    | some { k := .sl e, .. } => (match tiOf P e with
      | some ti => (match fillD (fun i => some (i * ti.size, ti.size)) (zerosE ti n) (ps.toList.map fun p => (p.1, f p.2)) with
        | some out => some (.sl nx 0 n (some n), up hp nx (.cells e none out), nx + 1)
        | none => none)
      | none => none)
    | _ => none)
  | .store t x y => (match tiOf P t, f x with
    | some ti, .pt l o => (match lk hp l with
      | some (.cells ty op ds) => some (.un, up hp l (.cells ty op (ds.take o ++ cellsD (f y) ++ ds.drop (o + ti.size))), nx)
      | _ => none)
    | _, _ => none)
  | .makeSlice t l c => (match tiOf P t with
    | some { k := .sl e, .. } => (match tiOf P e, f l, f c with
      | some ti, .lit (.int _ n), .lit (.int _ _) => some (.ow nx n.toNat, up hp nx (.cells e (some ti.size) (zerosL ti n.toNat)), nx + 1)
      | _, _, _ => none)
    | _ => none)
  | .call c => (match c.callee, c.argTypes.toList, c.args.toList with
    | .builtin .append, [t, tx], [x, y] => appendL P hp nx t tx (f x) (f y)
    | _, _, _ => none)
  | _ => none

def bigO (P : Program) (hp : List (Nat × Blk)) (f : Operand → D) : Op → Prop
  | .alloc _ => True
  | .box _ x => okX (f x) = true
  | .buildSlice t n _ => (match elemTI P t with
    | some ti => 0 < ti.size ∧ n * ti.size ≤ 16777216
    | none => False)
  | .store t x y => (match tiOf P t, f x with
    | some ti, .pt l o => okX (f y) = true ∧ (cellsD (f y)).length = ti.size ∧ (match lk hp l with
      | some (.cells _ _ ds) => o + ti.size ≤ ds.length
      | _ => False)
    | _, _ => False)
  | .makeSlice t l c => (match elemTI P t, f l, f c with
    | some ti, .lit (.int _ n), .lit (.int _ m) => 0 < ti.size ∧ 0 ≤ n ∧ n ≤ m ∧ ti.bytes * m ≤ 281474976710656 ∧ m ≤ 9223372036854775807
    | _, _, _ => False)
  | .call c => (match c.argTypes.toList, c.args.toList with
    | [t, tx], [x, y] => appendO P hp t tx (f x) (f y)
    | _, _ => False)
  | _ => False

/-- What is asked of such an operation's run. -/
def BOp (P : Program) (hp : List (Nat × Blk)) (nx : Nat) (f : Operand → D) (op : Op) (d : D) (hp' : List (Nat × Blk)) (nx' : Nat) : Prop :=
  ∀ M w, RH M { hp := toT hp, nx := nx } w → ∀ ρ : Operand → Value, (∀ x ∈ op.operands, R M (f x) (ρ x)) → ∀ o : Oper, o.op = op → Did P M w o ρ d { hp := toT hp', nx := nx' }

theorem bop_opE {P : Program} {hp hp' : List (Nat × Blk)} {nx nx' : Nat} {f : Operand → D} {op : Op} {d : D} {h' : H} (he : opE P { hp := toT hp, nx := nx } f op = some (d, h')) (hg : ∀ l, (toT hp').get l = h'.hp.get l) (hn : nx' = h'.nx) : BOp P hp nx f op d hp' nx' := by
  intro M w hr ρ hf o ho
  have : ∃ g : Operand → D, (∀ x ∈ op.operands, f x = g x) ∧ ∀ x, R M (g x) (ρ x) := by
    classical
    exact ⟨fun x => if x ∈ op.operands then f x else .any, fun x hx => (if_pos hx).symm, fun x => by
      show R M (if x ∈ op.operands then f x else .any) (ρ x)
      by_cases hx : x ∈ op.operands
      · rw [if_pos hx]; exact hf x hx
      · rw [if_neg hx]; exact .any _⟩
  obtain ⟨g, h1, h2⟩ := this
  rw [opE_congr h1] at he
  obtain ⟨v, w', M', k1, k2, k3, k4⟩ := opE_ok (o := o) hr h2 ho he
  exact ⟨v, w', M', k1, k2.same hg hn, k3, k4⟩

theorem make_okL {P : Program} {M : Mem} {hp : List (Nat × Blk)} {nx : Nat} {w : World} (hr : RH M { hp := toT hp, nx := nx } w) {t e : TypeId} {ti : TI} {kn kc : IntKind} {n m : Int} (hte : P.underlying t = some (.slice e)) (hti : tiOf P e = some ti)
    (ho : 0 < ti.size ∧ 0 ≤ n ∧ n ≤ m ∧ ti.bytes * m ≤ 281474976710656 ∧ m ≤ 9223372036854775807) :
    ∃ q w' M', (Instr.makeSlice t (.int kn n) (.int kc m)).run P w = .ok q w' ∧ RH M' { hp := toT (up hp nx (.cells e (some ti.size) (zerosL ti n.toNat))), nx := nx + 1 } w' ∧ R M' (.ow nx n.toNat) q ∧ Ext M w M' w' := by
  obtain ⟨i, d, z, hi⟩ := tiOf_spec hti
  obtain ⟨hsz, h0, hnc, hb, hc⟩ := ho
  obtain ⟨n, rfl⟩ : ∃ k : Nat, n = (k : Int) := ⟨n.toNat, by omega⟩
  obtain ⟨c, rfl⟩ : ∃ k : Nat, m = (k : Int) := ⟨m.toNat, by omega⟩
  have hzc : z.cells.size = ti.size := by rw [← Array.length_toList, hi.cells]; simpa using hi.len
  have hrun := run_make (P := P) w t e i z hte hi.info hi.zero kn kc (n : Int) (c : Int) (by omega) (by omega) (by rw [hi.bytes]; exact hb) (by omega)
  rw [hi.size] at hrun
  simp only [Int.toNat_natCast] at hrun ⊢
  have hms : (madeCells z.cells (c * ti.size)).size = c * ti.size := by simp [madeCells]
  have hle : n * ti.size ≤ c * ti.size := Nat.mul_le_mul_right _ (by omega)
  have hcell : ∀ (M' : Mem) (j : Nat) x, (zerosE ti n)[j]? = some x → ((madeCells z.cells (c * ti.size)).getD j undef).oneCell' = true ∧ R M' x ((madeCells z.cells (c * ti.size)).getD j undef) := fun M' j x hj => by
    have hlt : j < n * ti.size := by rw [← zerosE_length ti hi.len n]; exact (List.getElem?_eq_some_iff.1 hj).1
    have : (madeCells z.cells (c * ti.size)).getD j undef = z.cells[j % z.cells.size]! := by
      simp [madeCells, Array.getD_eq_getD_getElem?, show j < c * ti.size by omega]
    rw [this]
    exact zeros_cells hi hsz M' n j x hj
  obtain ⟨g1, g2⟩ := hr.fresh (w' := w.alloc (.cells (madeCells z.cells (c * ti.size)) e)) (.cells e (some ti.size) (zerosE ti n)) w.heap.size c rfl rfl rfl (by simp) (fun n hn => halloc_old w _ n hn) (by simp)
    (fun hle' => ⟨_, halloc_new w _, ⟨by rw [hms, zerosE_length ti hi.len]; exact hle, hms, by simp only [maxLen]; omega⟩, fun i x hx => hcell _ i x hx⟩)
  exact ⟨_, _, _, hrun, g1.same (fun l => toT_up l) rfl, ow_of_sl (.sl _ _ _ _ _ _ ⟨by simp [Mem.set], fun b' c' e => by simp [Mem.set] at e; exact e.1.symm, by simp [Mem.set]⟩ (by simp) (fun _ _ b' c' e => by simp [Mem.set] at e; exact e.2) (by omega) (by simp only [maxLen]; omega)), g2⟩

theorem big_ok {P : Program} {hp hp' : List (Nat × Blk)} {nx nx' : Nat} {f : Operand → D} {op : Op} {d : D} (hv : bigL P hp nx f op = some (d, hp', nx')) (ho : bigO P hp f op) : BOp P hp nx f op d hp' nx' := by
  cases op <;> simp only [bigL, reduceCtorEq] at hv <;> simp only [bigO] at ho
  case alloc t =>
    split at hv
    case h_2 => cases hv
    rename_i ti hti
    cases hv
    exact bop_opE (by simp only [opE, hti, Option.map_some]; rfl) (fun l => toT_up l) rfl
  case box t x =>
    cases hv
    exact bop_opE (by simp only [opE, boxE, ho, cond_true]; rfl) (fun l => toT_up l) rfl
  case buildSlice t n ps =>
    split at hv
    case h_2 => cases hv
    rename_i hti
    split at hv
    case h_2 => cases hv
    rename_i ti hte
    split at hv
    case h_2 => cases hv
    rename_i out hout
    cases hv
    simp only [elemTI, hti, hte] at ho
    have h1 : Nat.blt 0 ti.size = true := by rw [Nat.blt_eq]; exact ho.1
    have h2 : Nat.ble (n * ti.size) 16777216 = true := by rw [Nat.ble_eq]; exact ho.2
    exact bop_opE (by simp only [opE, buildSliceE, hti, hte, h1, h2, Bool.and_self, cond_true, hout]; rfl) (fun l => toT_up l) rfl
  case store t x y =>
    split at hv
    case h_2 => cases hv
    rename_i ti l o hti hx
    simp only [hti, hx] at ho
    split at hv
    case h_2 => cases hv
    rename_i ty op ds hl
    simp only [hl] at ho
    cases hv
    obtain ⟨h1, h2, h3⟩ := ho
    have e2 : Nat.beq (cellsD (f y)).length ti.size = true := by rw [h2]; exact Nat.beq_refl _
    have e3 : Nat.ble (o + ti.size) ds.length = true := by rw [Nat.ble_eq]; exact h3
    exact bop_opE (by simp only [opE, hti, hx, storeE, get_toT, hl, h1, e2, e3, Bool.and_self, cond_true, Option.map_some]; rfl) (fun l => toT_up l) rfl
  case makeSlice t l c =>
    split at hv
    case h_2 => cases hv
    rename_i htt
    obtain ⟨it, dt, zt, ht⟩ := tiOf_spec htt
    split at hv
    case h_2 => cases hv
    rename_i ti k1 n k2 m hte hl hc
    cases hv
    simp only [elemTI, htt, hte, hl, hc] at ho
    intro M w hr ρ hf o hop
    have e1 := hf l (by simp [Op.operands])
    have e2 := hf c (by simp [Op.operands])
    rw [hl] at e1
    rw [hc] at e2
    obtain ⟨q, w', M', g1, g2, g3, g4⟩ := make_okL (kn := k1) (kc := k2) hr (und_sl ht rfl) hte ho
    exact ⟨q, w', M', .inl (by simp only [execOp, hop, e1.litE, e2.litE, Sem.run_bind, g1, Result.andThen_ok, Sem.run_pure]), g2, g3, g4⟩
  case call c =>
    split at hv
    case h_2 => cases hv
    rename_i t tx x y hb h1 h2
    simp only [h1, h2] at ho
    intro M w hr ρ hf o hop
    have a1 : c.argTypes = #[t, tx] := by rw [← Array.toArray_toList (xs := c.argTypes), h1]
    have a2 : c.args = #[x, y] := by rw [← Array.toArray_toList (xs := c.args), h2]
    obtain ⟨q, w', M', g1, g2, g3, g4⟩ := appendL_ok (ty := o.type) hr hv ho (hf x (by simp only [Op.operands, Call.operands, hb]; simp [a2])) (hf y (by simp only [Op.operands, Call.operands, hb]; simp [a2]))
    refine ⟨q, w', M', .inl ?_, g2, g3, g4⟩
    simp only [execOp, hop, resolve, hb, invoke, builtin, Sem.run_bind, Sem.run_pure, Result.andThen_ok, a1, a2, List.map_toArray, List.map_cons, List.map_nil, g1]
end Go.Ev
