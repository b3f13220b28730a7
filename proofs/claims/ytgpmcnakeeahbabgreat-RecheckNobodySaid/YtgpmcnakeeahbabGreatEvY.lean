/-
  Whether two structs are the same.
-/
import Derived.Test.YtgpmcnakeeahbabGreatEvX
namespace Go.Ev
open Go.Aw (litOk TI TK tiOf TIs tiOf_spec sB)

def eqFs (P : Program) (eq : TypeId → D → D → Option Bool) (xs ys : List D) : List Field → Option Bool
  | [] => some true
  | f :: r => bif f.name == "_" then eqFs P eq xs ys r else (match tiOf P f.type with
    | some ti => (match partE ti xs f.offset, partE ti ys f.offset with
      | some a, some b => (match eq f.type a b with
        | some true => eqFs P eq xs ys r
        | some false => some false
        | none => none)
      | _, _ => none)
    | none => none)

def eqIn (P : Program) : Nat → TypeId → D → D → Option Bool
  | 0, _, _, _ => none
  | n + 1, t, x, y => match x, y with
    | .lit (.int k a), .lit (.int k' b) => (match P.underlying t with
      | some (.int _) => bif decide (k = k') then some (a == b) else none
      | _ => none)
    | .lit (.bool a), .lit (.bool b) => (match P.underlying t with
      | some .bool => some (a == b)
      | _ => none)
    | .lit (.string a), .lit (.string b) => (match P.underlying t with
      | some .string => some (sB a == sB b)
      | _ => none)
    | .agg xs, .agg ys => (match P.underlying t with
      | some (.struct fs) => bif P.stoodInHeld t then none else eqFs P (eqIn P n) xs ys fs.toList
      | _ => none)
    | _, _ => none

theorem eqFs_ok {P : Program} {M : Mem} {w : World} {eq : TypeId → D → D → Option Bool} {d : Nat} (heq : ∀ t x y b v u, eq t x y = some b → R M x v → R M y u → (Op.equalIn d t v u).run P w = .ok b w)
    {xs ys : List D} {cs ds : Array Value} (hx : R M (.agg xs) (.agg cs)) (hy : R M (.agg ys) (.agg ds)) : ∀ (fs : List Field) (b : Bool), eqFs P eq xs ys fs = some b → (Op.eqFields d cs ds fs).run P w = .ok b w
  | [], b, h => by
    simp only [eqFs, Option.some.injEq] at h
    subst h
    rfl
  | f :: r, b, h => by
    cases hx with
    | agg _ _ hs h1 h2 =>
    cases hy with
    | agg _ _ hs' h1' h2' =>
    simp only [eqFs] at h
    simp only [Op.eqFields]
    rw [cond_eq_ite] at h
    split at h
    · rename_i hn
      have hn : f.name = "_" := by simpa using hn
      rw [if_neg (by simpa using hn)]
      exact eqFs_ok heq (.agg _ _ hs h1 h2) (.agg _ _ hs' h1' h2') r b h
    · rename_i hn
      have hn : f.name ≠ "_" := by simpa using hn
      rw [if_pos hn]
      split at h
      case h_2 => cases h
      rename_i ti hti
      obtain ⟨i, dd, z, ht⟩ := tiOf_spec hti
      split at h
      case h_2 => cases h
      rename_i a c ha hc
      obtain ⟨va, e1, e2⟩ := part_ok ht w hs h1 h2 ha
      obtain ⟨vc, e3, e4⟩ := part_ok ht w hs' h1' h2' hc
      simp only [Sem.run_bind, e1, Result.andThen_ok, e3]
      split at h
      · rename_i hq
        rw [heq _ _ _ _ _ _ hq e2 e4]
        simp only [Result.andThen_ok, Bool.not_true, Bool.false_eq_true, if_false]
        exact eqFs_ok heq (.agg _ _ hs h1 h2) (.agg _ _ hs' h1' h2') r b h
      · rename_i hq
        cases h
        rw [heq _ _ _ _ _ _ hq e2 e4]
        simp only [Result.andThen_ok, Bool.not_false, if_true, Sem.run_pure]
      · cases h

theorem eqIn_ok {P : Program} {M : Mem} {w : World} : ∀ (n m : Nat), n ≤ m → ∀ (t : TypeId) (x y : D) (b : Bool) (v u : Value), eqIn P n t x y = some b → R M x v → R M y u → (Op.equalIn m t v u).run P w = .ok b w
  | 0, m, _, t, x, y, b, v, u, h, _, _ => by simp [eqIn] at h
  | n + 1, 0, hm, _, _, _, _, _, _, _, _, _ => by omega
  | n + 1, m + 1, hm, t, x, y, b, v, u, h, hv, hu => by
    simp only [eqIn] at h
    split at h
    · split at h
      · rename_i hund
        obtain ⟨hk, h9⟩ := bif_some h
        simp only [decide_eq_true_eq] at hk
        subst hk
        cases h9
        cases hv
        cases hu
        exact run_equalIn_int w m t _ _ _ _ hund
      · cases h
    · split at h
      · rename_i hund
        cases h
        cases hv
        cases hu
        exact run_equalIn_bool' w m t _ _ hund
      · cases h
    · split at h
      · rename_i a c hund
        cases h
        cases hv
        cases hu
        rw [run_equalIn_string w m t _ _ (by assumption)]
        rw [Lib.toList_data, Lib.toList_data]
        rfl
      · cases h
    · rename_i xs ys
      split at h
      · rename_i fs hund
        rw [cond_eq_ite] at h
        split at h
        · cases h
        · rename_i hst
          have hst : P.stoodInHeld t = false := by simpa using hst
          have hf : P.fieldsOf t = fs := by unfold Program.fieldsOf; rw [hund]
          have hv0 := hv
          have hu0 := hu
          cases hv with
          | agg _ cs hs h1 h2 =>
          cases hu with
          | agg _ ds hs' h1' h2' =>
          rw [run_equalIn_struct w m t cs ds (by rw [hf]; exact hund) hst, hf]
          exact eqFs_ok (fun t x y b v u => eqIn_ok n m (by omega) t x y b v u) hv0 hu0 _ _ h
      · cases h
    · cases h

def structEqE (P : Program) (op : BinOp) (t : TypeId) (x y : D) : Option D :=
  match x, y with
  | .agg _, .agg _ => bif P.eqGuardType P.depth t then none else (match eqIn P 40 t x y with
    | some b => eqRes op b
    | none => none)
  | _, _ => none

theorem structEq_ok {P : Program} {M : Mem} {w : World} {op : BinOp} {t : TypeId} {x y p : D} (he : structEqE P op t x y = some p) {v u : Value} (hv : R M x v) (hu : R M y u) (ox oy : Operand) :
    ∃ q, (do eqGuard op t ox oy v u; binOp op t v u : Sem Value).run P w = .ok q w ∧ R M p q := by
  unfold structEqE at he
  split at he
  case h_2 => cases he
  rename_i xs ys
  rw [cond_eq_ite] at he
  split at he
  · cases he
  rename_i hg
  have hg : P.eqGuardType P.depth t = false := by simpa using hg
  split at he
  case h_2 => cases he
  rename_i b hb
  have h1 := eqIn_ok (w := w) 40 10000 (by omega) t _ _ b v u hb hv hu
  cases hv with
  | agg _ cs hs h1' h2 =>
  cases hu with
  | agg _ ds hs' h1'' h2' =>
  rw [Sem.run_bind, run_eqGuard_agg w op t ox oy cs ds hg, Result.andThen_ok]
  unfold eqRes at he
  cases op <;> simp only [Option.some.injEq, reduceCtorEq] at he <;> subst he
  · exact ⟨.bool b, by rw [run_eql_struct, h1]; rfl, .lit _ trivial⟩
  · exact ⟨.bool (!b), by rw [run_neq_struct, h1]; rfl, .lit _ trivial⟩
end Go.Ev
