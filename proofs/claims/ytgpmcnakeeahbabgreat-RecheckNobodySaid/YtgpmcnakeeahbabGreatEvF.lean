/-
  Every operation but calls of Go's functions.
-/
import Derived.Test.YtgpmcnakeeahbabGreatEvN
import Derived.Test.YtgpmcnakeeahbabGreatAwL
namespace Go.Ev
open Go.Aw (litOk Z TK TI kOf isAggV tiOf TIs tiOf_spec WF)

def nilE : D → Option D
  | .pt l o => some (.pt l o)
  | .fn (.func g) a b => some (.fn (.func g) a b)
  | .yl l => some (.yl l)
  | _ => none

def maxE : List D → Option D
  | [.lit (.int k a), .lit (.int _ b)] => some (.lit (.int k (bif decide (b > a) then b else a)))
  | _ => none

def minE : List D → Option D
  | [.lit (.int k a), .lit (.int _ b)] => some (.lit (.int k (bif decide (b < a) then b else a)))
  | _ => none

def builtinE (P : Program) (h : H) (f : Operand → D) (b : Builtin) (ts : List TypeId) (xs : List Operand) : Option (D × H) :=
  match b, ts, xs with
  | .len, [t], [x] => (lenE P t (f x)).map (·, h)
  | .cap, [t], [x] => (capE P t (f x)).map (·, h)
  | .append, [t, tx], [x, y] => appendE P h t tx (f x) (f y)
  | .copy, [t, tx], [x, y] => copyE P h t tx (f x) (f y)
  | .max, _, xs => (maxE (xs.map f)).map (·, h)
  | .min, _, xs => (minE (xs.map f)).map (·, h)
  | .unsafeSliceData, _, [x] => (sliceDataE (f x)).map (·, h)
  | .unsafeString, [pt, _], [x, y] => strE P h pt (f x) (f y)
  | .clear, [t], [x] => clearE P h t (f x)
  | _, _, _ => none

def opE (P : Program) (h : H) (f : Operand → D) (op : Op) : Option (D × H) :=
  match op with
  | .move x => some (f x, h)
  | .assign x => some (f x, h)
  | .pick c x y => (match f c with
    | .lit (.bool b) => some (bif b then f x else f y, h)
    | _ => none)
  | .alloc t => (tiOf P t).map fun ti => allocE h t ti
  | .box t x => boxE h t (f x)
  | .build t ps => (buildE P t (ps.toList.map fun p => (p.1, f p.2))).map (·, h)
  | .buildSlice t n ps => buildSliceE P h t n (ps.toList.map fun p => (p.1, f p.2))
  | .load t x => (match tiOf P t with
    | some ti => (loadE h ti (f x)).map (·, h)
    | none => none)
  | .store t x y => (match tiOf P t with
    | some ti => (storeE h ti (f x) (f y)).map (D.un, ·)
    | none => none)
  | .nilCheck x => (nilE (f x)).map (·, h)
  | .binOp op t x y _ => (match binE P op t (f x) (f y) with
    | some d => some (d, h)
    | none => (match ptrEqE P h op t (f x) (f y) with
      | some d => some (d, h)
      | none => (match structEqE P op t (f x) (f y) with
        | some d => some (d, h)
        | none => (mapNilE P op t (f x) (f y)).map (·, h))))
  | .unOp op _ x => (unE op (f x)).map (·, h)
  | .convert src dst x => (match convE P src dst (f x) with
    | some d => some (d, h)
    | none => (convPE P h src dst (f x)).map (·, h))
  | .makeInterface t x => (match tiOf P t with
    | some ti => bif decide (ti.k = .ifc) then none else some (.ifc t (f x), h)
    | none => none)
  | .makeFunc fn first caps => some (.fn fn (first.toList.map f) (caps.toList.map f), h)
  | .makeSlice t l c => makeE P h t (f l) (f c)
  | .slice t x lo hi mx => (sliceE P t (f x) (lo.map f) (hi.map f) (mx.map f)).map (·, h)
  | .fieldAddr t x i => (fieldAddrE P t (f x) i).map (·, h)
  | .field t x i => (fieldE P t (f x) i).map (·, h)
  | .indexAddr t x ix => (indexAddrE P t (f x) (f ix)).map (·, h)
  | .index t x ix => (indexE P t (f x) (f ix)).map (·, h)
  | .extract x i => (match f x with
    | .tup l => (l[i]?).map (·, h)
    | _ => none)
  | .lookup t x k c => (lookupE P h t (f x) (f k) c).map (·, h)
  | .mapUpdate t x k v => (mapUpdateE P h t (f x) (f k) (f v)).map (D.un, ·)
  | .range t x => rangeE P h t (f x)
  | .next x st => bif st then none else nextE h (f x)
  | .entry x => (entryE h (f x)).map (·, h)
  | .makeMap _ r => (match r with
    | none => some (makeMapE h)
    | some _ => none)
  | .call c => (match c.callee with
    | .builtin b => builtinE P h f b c.argTypes.toList c.args.toList
    | _ => none)
  | _ => none

/-- What is asked of an operation's run. -/
def Did (P : Program) (M : Mem) (w : World) (o : Oper) (ρ : Operand → Value) (d : D) (h' : H) : Prop :=
  ∃ v w' M', ((execOp ρ o).run P w = .ok (.value v) w' ∨ ((execOp ρ o).run P w = .ok .skip w' ∧ v = undef)) ∧ RH M' h' w' ∧ R M' d v ∧ Ext M w M' w'

theorem did_val {P : Program} {M : Mem} {w : World} {o : Oper} {ρ : Operand → Value} {d : D} {h : H} (hr : RH M h w) (v : Value) (h1 : (execOp ρ o).run P w = .ok (.value v) w) (h2 : R M d v) : Did P M w o ρ d h :=
  ⟨v, w, M, .inl h1, hr, h2, Ext.refl M w⟩

theorem map_pair {α β : Type} {a : Option α} {b b' : β} {d : α} (h : a.map (·, b) = some (d, b')) : a = some d ∧ b' = b := by
  cases a with
  | none => simp at h
  | some x => simp at h; exact ⟨by rw [h.1], h.2.symm⟩

theorem opt_R {M : Mem} {f : Operand → D} {ρ : Operand → Value} (hf : ∀ x, R M (f x) (ρ x)) (x : Option Operand) : (∀ d, x.map f = some d → ∃ u, x.map ρ = some u ∧ R M d u) ∧ (x.map f = none → x.map ρ = none) := by
  cases x with
  | none => exact ⟨fun d h => by simp at h, fun _ => rfl⟩
  | some y => exact ⟨fun d h => by simp at h; subst h; exact ⟨_, rfl, hf y⟩, fun h => by simp at h⟩

theorem parts_R {M : Mem} {f : Operand → D} {ρ : Operand → Value} (hf : ∀ x, R M (f x) (ρ x)) (ps : Array (Nat × Operand)) : (ps.toList.map fun p => (p.1, f p.2)).length = (ps.map fun p => (p.1, ρ p.2)).size ∧
    ∀ (j : Nat) p q, (ps.toList.map fun p => (p.1, f p.2))[j]? = some p → (ps.map fun p => (p.1, ρ p.2))[j]? = some q → q.1 = p.1 ∧ R M p.2 q.2 := by
  refine ⟨by simp, fun j p q hp hq => ?_⟩
  simp only [List.getElem?_map, Array.getElem?_toList, Option.map_eq_some_iff] at hp
  simp only [Array.getElem?_map, Option.map_eq_some_iff] at hq
  obtain ⟨y, hy, rfl⟩ := hp
  obtain ⟨z, hz, rfl⟩ := hq
  rw [hy] at hz
  cases hz
  exact ⟨rfl, hf _⟩

theorem fns_R {M : Mem} {f : Operand → D} {ρ : Operand → Value} (hf : ∀ x, R M (f x) (ρ x)) (xs : Array Operand) : (xs.map ρ).size = (xs.toList.map f).length ∧ ∀ (i : Nat) d, (xs.toList.map f)[i]? = some d → R M d ((xs.map ρ).getD i undef) := by
  refine ⟨by simp, fun i d h => ?_⟩
  simp only [List.getElem?_map, Array.getElem?_toList, Option.map_eq_some_iff] at h
  obtain ⟨x, hx, rfl⟩ := h
  rw [show (xs.map ρ).getD i undef = ρ x by simp [Array.getD_eq_getD_getElem?, hx]]
  exact hf x

theorem builtin_ok {P : Program} {M : Mem} {h : H} {w : World} (hr : RH M h w) {f : Operand → D} {ρ : Operand → Value} (hf : ∀ x, R M (f x) (ρ x)) {b : Builtin} {ts : List TypeId} {xs : List Operand} {ty : TypeId} {d : D} {h' : H}
    (he : builtinE P h f b ts xs = some (d, h')) : ∃ v w' M', (∀ cs, (builtin b ts.toArray ty cs (xs.toArray.map ρ)).run P w = .ok (.value v) w') ∧ RH M' h' w' ∧ R M' d v ∧ Ext M w M' w' := by
  unfold builtinE at he
  split at he
  · obtain ⟨e1, rfl⟩ := map_pair he
    obtain ⟨q, g1, g2⟩ := len_ok (w := w) (ty := ty) e1 (hf _)
    exact ⟨q, w, M, fun _ => by simp only [builtin, Sem.run_bind, List.map_toArray, List.map_cons, List.map_nil, g1, Result.andThen_ok, Sem.run_pure], hr, g2, Ext.refl M w⟩
  · obtain ⟨e1, rfl⟩ := map_pair he
    obtain ⟨q, g1, g2⟩ := cap_ok (w := w) (ty := ty) e1 (hf _)
    exact ⟨q, w, M, fun _ => by simp only [builtin, Sem.run_bind, List.map_toArray, List.map_cons, List.map_nil, g1, Result.andThen_ok, Sem.run_pure], hr, g2, Ext.refl M w⟩
  · obtain ⟨q, w', M', g1, g2, g3, g4⟩ := append_ok (ty := ty) hr he (hf _) (hf _)
    exact ⟨q, w', M', fun _ => by simp only [builtin, Sem.run_bind, List.map_toArray, List.map_cons, List.map_nil, g1, Result.andThen_ok, Sem.run_pure], g2, g3, g4⟩
  · obtain ⟨q, w', g1, g2, g3, g4⟩ := copy_ok (ty := ty) hr he (hf _) (hf _)
    exact ⟨q, w', M, fun _ => by simp only [builtin, Sem.run_bind, List.map_toArray, List.map_cons, List.map_nil, g1, Result.andThen_ok, Sem.run_pure], g2, g3, g4⟩
  · obtain ⟨e1, rfl⟩ := map_pair he
    unfold maxE at e1
    split at e1
    case h_2 => cases e1
    rename_i k a k' b hxs
    cases e1
    obtain ⟨x, y, rfl⟩ : ∃ x y, xs = [x, y] := by
      cases xs with
      | nil => simp at hxs
      | cons x r =>
        cases r with
        | nil => simp at hxs
        | cons y q =>
          cases q with
          | nil => exact ⟨x, y, rfl⟩
          | cons _ _ => simp at hxs
    · simp only [List.map_cons, List.map_nil, List.cons.injEq, and_true] at hxs
      have ex := hf x
      rw [hxs.1] at ex
      have ey := hf y
      rw [hxs.2] at ey
      refine ⟨.int k (if b > a then b else a), w, M, ?_, hr, ?_, Ext.refl M w⟩
      · intro _; simp only [builtin, Sem.run_bind, List.map_toArray, List.map_cons, List.map_nil, ex.litE, ey.litE, run_max_int2, Result.andThen_ok, Sem.run_pure]
      · simp only [cond_eq_ite, decide_eq_true_eq]; exact .lit _ trivial
  · obtain ⟨e1, rfl⟩ := map_pair he
    unfold minE at e1
    split at e1
    case h_2 => cases e1
    rename_i k a k' b hxs
    cases e1
    obtain ⟨x, y, rfl⟩ : ∃ x y, xs = [x, y] := by
      cases xs with
      | nil => simp at hxs
      | cons x r =>
        cases r with
        | nil => simp at hxs
        | cons y q =>
          cases q with
          | nil => exact ⟨x, y, rfl⟩
          | cons _ _ => simp at hxs
    · simp only [List.map_cons, List.map_nil, List.cons.injEq, and_true] at hxs
      have ex := hf x
      rw [hxs.1] at ex
      have ey := hf y
      rw [hxs.2] at ey
      refine ⟨.int k (if b < a then b else a), w, M, ?_, hr, ?_, Ext.refl M w⟩
      · intro _; simp only [builtin, Sem.run_bind, List.map_toArray, List.map_cons, List.map_nil, ex.litE, ey.litE, run_min_int2, Result.andThen_ok, Sem.run_pure]
      · simp only [cond_eq_ite, decide_eq_true_eq]; exact .lit _ trivial
  · obtain ⟨e1, rfl⟩ := map_pair he
    obtain ⟨q, g1, g2⟩ := sliceData_ok (P := P) (w := w) (ts := ts.toArray) (ty := ty) e1 (hf _)
    exact ⟨q, w, M, fun _ => by simp only [builtin, Sem.run_bind, List.map_toArray, List.map_cons, List.map_nil, g1, Result.andThen_ok, Sem.run_pure], hr, g2, Ext.refl M w⟩
  · rename_i pt it x y
    obtain ⟨q, w', g1, g2, g3, g4⟩ := str_ok (it := it) (ty := ty) hr he (hf x) (hf y)
    exact ⟨q, w', M, fun _ => by simp only [builtin, Sem.run_bind, List.map_toArray, List.map_cons, List.map_nil, g1, Result.andThen_ok, Sem.run_pure], g2, g3, g4⟩
  · obtain ⟨q, w', g1, g2, g3, g4⟩ := clear_ok (ty := ty) hr he (hf _)
    exact ⟨q, w', M, fun _ => by simp only [builtin, Sem.run_bind, List.map_toArray, List.map_cons, List.map_nil, g1, Result.andThen_ok, Sem.run_pure], g2, g3, g4⟩
  · cases he

theorem opE_ok {P : Program} {M : Mem} {h : H} {w : World} (hr : RH M h w) {f : Operand → D} {ρ : Operand → Value} (hf : ∀ x, R M (f x) (ρ x)) {o : Oper} {op : Op} (hop : o.op = op) {d : D} {h' : H}
    (he : opE P h f op = some (d, h')) : Did P M w o ρ d h' := by
  cases op <;> simp only [opE, reduceCtorEq] at he
  case move x => cases he; exact did_val hr _ (by simp only [execOp, hop, Sem.run_pure]) (hf x)
  case assign x => cases he; exact did_val hr _ (by simp only [execOp, hop, Sem.run_pure]) (hf x)
  case pick c x y =>
    split at he
    case h_2 => cases he
    rename_i b hb
    cases he
    have hc := hf c
    rw [hb] at hc
    refine did_val hr (if b then ρ x else ρ y) (by simp only [execOp, hop, hc.litE, asBool, Sem.run_bind, Sem.run_pure, Result.andThen_ok]) ?_
    cases b
    · exact hf y
    · exact hf x
  case alloc t =>
    simp only [Option.map_eq_some_iff] at he
    obtain ⟨ti, hti, he⟩ := he
    obtain ⟨it, dt, zt, ht⟩ := tiOf_spec hti
    obtain ⟨u, w', M', g1, g2, g3, g4⟩ := alloc_ok ht hr
    rw [he] at g2 g3
    exact ⟨u, w', M', .inl (by simp only [execOp, hop, Sem.run_bind, g1, Result.andThen_ok, Sem.run_pure]), g2, g3, g4⟩
  case box t x =>
    obtain ⟨u, w', M', g1, g2, g3, g4⟩ := box_ok (P := P) hr (hf x) he
    exact ⟨u, w', M', .inl (by simp only [execOp, hop, Sem.run_bind, g1, Result.andThen_ok, Sem.run_pure]), g2, g3, g4⟩
  case build t ps =>
    obtain ⟨e1, rfl⟩ := map_pair he
    obtain ⟨g1, g2⟩ := parts_R hf ps
    obtain ⟨u, h1, h2⟩ := build_ok (w := w) e1 g1 g2
    exact did_val hr u (by simp only [execOp, hop, Sem.run_bind, h1, Result.andThen_ok, Sem.run_pure]) h2
  case buildSlice t n ps =>
    obtain ⟨g1, g2⟩ := parts_R hf ps
    obtain ⟨u, w', M', h1, h2⟩ := buildSlice_ok (P := P) hr he g1 g2
    exact ⟨u, w', M', .inl (by simp only [execOp, hop, Sem.run_bind, h1, Result.andThen_ok, Sem.run_pure]), h2⟩
  case load t x =>
    split at he
    case h_2 => cases he
    rename_i ti hti
    obtain ⟨it, dt, zt, ht⟩ := tiOf_spec hti
    obtain ⟨e1, rfl⟩ := map_pair he
    obtain ⟨u, h1, h2⟩ := load_ok ht hr e1 (hf x)
    exact did_val hr u (by simp only [execOp, hop, Sem.run_bind, h1, Result.andThen_ok, Sem.run_pure]) h2
  case store t x y =>
    split at he
    case h_2 => cases he
    rename_i ti hti
    obtain ⟨it, dt, zt, ht⟩ := tiOf_spec hti
    simp only [Option.map_eq_some_iff, Prod.mk.injEq] at he
    obtain ⟨h2, hs, rfl, rfl⟩ := he
    obtain ⟨w', h1, h2, h3⟩ := store_ok ht hr hs (hf x) (hf y)
    exact ⟨undef, w', M, .inr ⟨by simp only [execOp, hop, Sem.run_bind, h1, Result.andThen_ok, Sem.run_pure], rfl⟩, h2, .un, h3⟩
  case nilCheck x =>
    obtain ⟨e1, rfl⟩ := map_pair he
    have hx := hf x
    unfold nilE at e1
    split at e1
    · rename_i l o hd
      cases e1
      rw [hd] at hx
      generalize hv : ρ x = v at hx
      cases hx with
      | pt _ _ b ha => exact did_val hr _ (by simp only [execOp, hop, hv, Sem.run_pure]) (.pt l o b ha)
    · rename_i g a b hd
      cases e1
      rw [hd] at hx
      generalize hv : ρ x = v at hx
      cases hx with
      | fn _ _ _ v1 v2 e1 e2 e3 e4 => exact did_val hr _ (by simp only [execOp, hop, hv, Sem.run_pure]) (.fn _ _ _ v1 v2 e1 e2 e3 e4)
    · rename_i l hd
      cases e1
      rw [hd] at hx
      generalize hv : ρ x = v at hx
      cases hx with
      | yl _ b ha => exact did_val hr _ (by simp only [execOp, hop, hv, Sem.run_pure]) (.yl l b ha)
    · cases e1
  case binOp op t x y t' =>
    split at he
    · rename_i d1 e1
      cases he
      obtain ⟨q, h1, h2⟩ := bin_ok (w := w) e1 (hf x) (hf y) x y
      exact did_val hr q (by unfold execOp; simp only [hop]; rw [Sem.run_bind, h1]; rfl) h2
    split at he
    · rename_i d1 e1
      cases he
      obtain ⟨q, h1, h2⟩ := ptrEq_ok hr e1 (hf x) (hf y) x y
      exact did_val hr q (by unfold execOp; simp only [hop]; rw [Sem.run_bind, h1]; rfl) h2
    split at he
    · rename_i d1 e1
      cases he
      obtain ⟨q, h1, h2⟩ := structEq_ok (w := w) e1 (hf x) (hf y) x y
      exact did_val hr q (by unfold execOp; simp only [hop]; rw [Sem.run_bind, h1]; rfl) h2
    obtain ⟨e1, rfl⟩ := map_pair he
    obtain ⟨q, h1, h2⟩ := mapNil_ok (w := w) e1 (hf x) (hf y) x y
    exact did_val hr q (by unfold execOp; simp only [hop]; rw [Sem.run_bind, h1]; rfl) h2
  case lookup t x k c =>
    obtain ⟨e1, rfl⟩ := map_pair he
    obtain ⟨q, h1, h2⟩ := lookup_ok hr e1 (hf x) (hf k)
    exact did_val hr q (by simp only [execOp, hop, Sem.run_bind, h1, Result.andThen_ok, Sem.run_pure]) h2
  case mapUpdate t x k v =>
    simp only [Option.map_eq_some_iff, Prod.mk.injEq] at he
    obtain ⟨h2, hs, rfl, rfl⟩ := he
    obtain ⟨w', h1, h2, h3⟩ := mapUpdate_ok hr hs (hf x) (hf k) (hf v)
    exact ⟨undef, w', M, .inr ⟨by simp only [execOp, hop, Sem.run_bind, h1, Result.andThen_ok, Sem.run_pure], rfl⟩, h2, .un, h3⟩
  case range t x =>
    obtain ⟨u, w', M', h1, h2⟩ := range_ok hr he (hf x)
    exact ⟨u, w', M', .inl (by simp only [execOp, hop, Sem.run_bind, h1, Result.andThen_ok, Sem.run_pure]), h2⟩
  case next x st =>
    cases st with
    | true => cases he
    | false =>
      obtain ⟨u, w', h1, h2, h3, h4⟩ := next_ok (P := P) hr he (hf x) o.type
      exact ⟨u, w', M, .inl (by simp only [execOp, hop, Sem.run_bind, h1, Result.andThen_ok, Sem.run_pure]), h2, h3, h4⟩
  case entry x =>
    obtain ⟨e1, rfl⟩ := map_pair he
    obtain ⟨q, h1, h2⟩ := entry_ok (P := P) hr e1 (hf x)
    exact did_val hr q (by simp only [execOp, hop, Sem.run_bind, h1, Result.andThen_ok, Sem.run_pure]) h2
  case makeMap t r =>
    split at he
    case h_2 => cases he
    cases he
    obtain ⟨u, w', M', h1, h2⟩ := makeMap_ok (P := P) hr t
    exact ⟨u, w', M', .inl (by simp only [execOp, hop, Option.map_none, Sem.run_bind, h1, Result.andThen_ok, Sem.run_pure]), h2⟩
  case unOp op t x =>
    obtain ⟨e1, rfl⟩ := map_pair he
    obtain ⟨q, h1, h2⟩ := un_ok (P := P) (w := w) e1 (hf x)
    exact did_val hr q (by simp only [execOp, hop, Sem.run_bind, h1, Result.andThen_ok, Sem.run_pure]) h2
  case convert src dst x =>
    split at he
    · rename_i d1 e1
      cases he
      obtain ⟨q, h1, h2⟩ := conv_ok (w := w) e1 (hf x)
      exact did_val hr q (by simp only [execOp, hop, Sem.run_bind, h1, Result.andThen_ok, Sem.run_pure]) h2
    obtain ⟨e1, rfl⟩ := map_pair he
    obtain ⟨q, h1, h2⟩ := convP_ok hr e1 (hf x)
    exact did_val hr q (by simp only [execOp, hop, Sem.run_bind, h1, Result.andThen_ok, Sem.run_pure]) h2
  case makeInterface t x =>
    split at he
    case h_2 => cases he
    rename_i ti hti
    obtain ⟨it, dt, zt, ht⟩ := tiOf_spec hti
    rw [cond_eq_ite] at he
    split at he
    · cases he
    · rename_i hi
      simp only [decide_eq_true_eq] at hi
      cases he
      refine did_val hr _ ?_ (.ifc t _ _ (hf x))
      have : (Instr.makeInterface t (ρ x)).run P w = .ok (.iface t (ρ x)) w := by
        unfold Instr.makeInterface
        simp only [Sem.run_bind, run_underlying ht.und, Result.andThen_ok]
        have hk' := ht.k
        cases dt <;> first | rfl | exact absurd hk' hi
      simp only [execOp, hop, Sem.run_bind, this, Result.andThen_ok, Sem.run_pure]
  case makeFunc fn first caps =>
    cases he
    obtain ⟨g1, g2⟩ := fns_R hf first
    obtain ⟨g3, g4⟩ := fns_R hf caps
    exact did_val hr _ (by simp only [execOp, hop, Instr.makeFunc, Sem.run_bind, Sem.run_pure, Result.andThen_ok]) (.fn fn _ _ _ _ g1 g3 g2 g4)
  case makeSlice t l c =>
    obtain ⟨u, w', M', h1, h2⟩ := make_ok hr he (hf l) (hf c)
    exact ⟨u, w', M', .inl (by simp only [execOp, hop, Sem.run_bind, h1, Result.andThen_ok, Sem.run_pure]), h2⟩
  case slice t x lo hi mx =>
    obtain ⟨e1, rfl⟩ := map_pair he
    obtain ⟨l1, l2⟩ := opt_R hf lo
    obtain ⟨h1, h2⟩ := opt_R hf hi
    obtain ⟨m1, m2⟩ := opt_R hf mx
    obtain ⟨q, g1, g2⟩ := slice_ok (w := w) e1 (hf x) l1 l2 h1 h2 m1 m2
    exact did_val hr q (by simp only [execOp, hop, Sem.run_bind, g1, Result.andThen_ok, Sem.run_pure]) g2
  case fieldAddr t x i =>
    obtain ⟨e1, rfl⟩ := map_pair he
    obtain ⟨q, h1, h2⟩ := fieldAddr_ok (w := w) e1 (hf x)
    exact did_val hr q (by simp only [execOp, hop, Sem.run_bind, h1, Result.andThen_ok, Sem.run_pure]) h2
  case field t x i =>
    obtain ⟨e1, rfl⟩ := map_pair he
    obtain ⟨q, h1, h2⟩ := field_ok (w := w) e1 (hf x)
    exact did_val hr q (by simp only [execOp, hop, Sem.run_bind, h1, Result.andThen_ok, Sem.run_pure]) h2
  case indexAddr t x ix =>
    obtain ⟨e1, rfl⟩ := map_pair he
    obtain ⟨q, h1, h2⟩ := indexAddr_ok (w := w) e1 (hf x) (hf ix)
    exact did_val hr q (by simp only [execOp, hop, Sem.run_bind, h1, Result.andThen_ok, Sem.run_pure]) h2
  case index t x ix =>
    obtain ⟨e1, rfl⟩ := map_pair he
    obtain ⟨q, h1, h2⟩ := index_ok (w := w) e1 (hf x) (hf ix)
    exact did_val hr q (by simp only [execOp, hop, Sem.run_bind, h1, Result.andThen_ok, Sem.run_pure]) h2
  case extract x i =>
    split at he
    case h_2 => cases he
    rename_i l hl
    obtain ⟨e1, rfl⟩ := map_pair he
    have hx := hf x
    rw [hl] at hx
    generalize hv : ρ x = v at hx
    cases hx with
    | tup _ vs hs hx =>
    refine did_val hr (vs.getD i undef) ?_ (hx i d e1)
    have hi : i < vs.size := by rw [hs]; exact (List.getElem?_eq_some_iff.1 e1).1
    simp [execOp, hop, hv, Instr.extract, hi, Array.getD_eq_getD_getElem?]
  case call c =>
    split at he
    case h_2 => cases he
    rename_i b hc
    obtain ⟨v, w', M', g1, g2⟩ := builtin_ok (ty := o.type) hr hf he
    refine ⟨v, w', M', .inl ?_, g2⟩
    simp only [Array.toArray_toList] at g1
    simp only [execOp, hop, resolve, hc, invoke, Sem.run_bind, Sem.run_pure, Result.andThen_ok, g1]

theorem mapL_congr {f g : Operand → D} (xs : List Operand) (h : ∀ x ∈ xs, f x = g x) : xs.map f = xs.map g := List.map_congr_left h
theorem mapO_congr {f g : Operand → D} (x : Option Operand) (h : ∀ y, x = some y → f y = g y) : x.map f = x.map g := by
  cases x with
  | none => rfl
  | some y => simp [h y rfl]
theorem mapP_congr {f g : Operand → D} (xs : List (Nat × Operand)) (h : ∀ p ∈ xs, f p.2 = g p.2) : (xs.map fun p => (p.1, f p.2)) = xs.map fun p => (p.1, g p.2) :=
  List.map_congr_left fun p hp => by rw [h p hp]

theorem builtinE_congr {P : Program} {h : H} {f g : Operand → D} {b : Builtin} {ts : List TypeId} {xs : List Operand} (he : ∀ x ∈ xs, f x = g x) : builtinE P h f b ts xs = builtinE P h g b ts xs := by
  unfold builtinE
  split
  · rw [he _ (by simp)]
  · rw [he _ (by simp)]
  · rename_i x y
    rw [he x (by simp), he y (by simp)]
  · rename_i x y
    rw [he x (by simp), he y (by simp)]
  · rw [mapL_congr _ he]
  · rw [mapL_congr _ he]
  · rw [he _ (by simp)]
  · rename_i x y
    rw [he x (by simp), he y (by simp)]
  · rw [he _ (by simp)]
  · rfl

/-- An operation looks at its operands alone. -/
theorem opE_congr {P : Program} {h : H} {f g : Operand → D} {op : Op} (he : ∀ x ∈ op.operands, f x = g x) : opE P h f op = opE P h g op := by
  cases op <;> simp only [opE]
  case move x => rw [he x (by simp [Op.operands])]
  case assign x => rw [he x (by simp [Op.operands])]
  case pick c x y => rw [he c (by simp [Op.operands]), he x (by simp [Op.operands]), he y (by simp [Op.operands])]
  case box t x => rw [he x (by simp [Op.operands])]
  case build t ps => rw [mapP_congr _ fun p hp => he p.2 (by simp only [Op.operands, List.mem_toArray, List.mem_map]; exact ⟨p, hp, rfl⟩)]
  case buildSlice t n ps => rw [mapP_congr _ fun p hp => he p.2 (by simp only [Op.operands, List.mem_toArray, List.mem_map]; exact ⟨p, hp, rfl⟩)]
  case load t x => rw [he x (by simp [Op.operands])]
  case store t x y => rw [he x (by simp [Op.operands]), he y (by simp [Op.operands])]
  case nilCheck x => rw [he x (by simp [Op.operands])]
  case binOp op t x y _ => rw [he x (by simp [Op.operands]), he y (by simp [Op.operands])]
  case unOp op _ x => rw [he x (by simp [Op.operands])]
  case convert src dst x => rw [he x (by simp [Op.operands])]
  case makeInterface t x => rw [he x (by simp [Op.operands])]
  case makeFunc fn first caps => rw [mapL_congr _ fun x hx => he x (by simp only [Op.operands, Array.mem_append]; exact .inl (Array.mem_toList_iff.1 hx)), mapL_congr _ fun x hx => he x (by simp only [Op.operands, Array.mem_append]; exact .inr (Array.mem_toList_iff.1 hx))]
  case makeSlice t l c => rw [he l (by simp [Op.operands]), he c (by simp [Op.operands])]
  case range t x => rw [he x (by simp [Op.operands])]
  case next x st => rw [he x (by simp [Op.operands])]
  case entry x => rw [he x (by simp [Op.operands])]
  case lookup t x k c => rw [he x (by simp [Op.operands]), he k (by simp [Op.operands])]
  case mapUpdate t x k v => rw [he x (by simp [Op.operands]), he k (by simp [Op.operands]), he v (by simp [Op.operands])]
  case slice t x lo hi mx => rw [he x (by simp [Op.operands]), mapO_congr lo fun y hy => he y (by subst hy; simp [Op.operands]), mapO_congr hi fun y hy => he y (by subst hy; simp [Op.operands]), mapO_congr mx fun y hy => he y (by subst hy; simp [Op.operands])]
  case fieldAddr t x i => rw [he x (by simp [Op.operands])]
  case field t x i => rw [he x (by simp [Op.operands])]
  case indexAddr t x ix => rw [he x (by simp [Op.operands]), he ix (by simp [Op.operands])]
  case index t x ix => rw [he x (by simp [Op.operands]), he ix (by simp [Op.operands])]
  case extract x i => rw [he x (by simp [Op.operands])]
  case call c =>
    split
    · rename_i b hc
      exact builtinE_congr fun x hx => he x (by simp only [Op.operands, Call.operands, Array.mem_append]; exact .inr (Array.mem_toList_iff.1 hx))
    · rfl
end Go.Ev
