/-
  Every operation is sound; regions of code.
-/
import Derived.Test.YtgpmcnakeeahbabGreatAwJ
namespace Go.Aw

theorem exec_eq {o : Oper} {op : Op} (h : o.op = op) (ρ : Operand → Value) : execOp ρ o = execOp ρ { o with op := op } := by subst h; rfl

/-- Results of a pure value's run, as opw_run wants them. -/
theorem opw_val {P : Program} {r : Option Nat} {o : Oper} {K Kp : D → St → Prop} {s : St} (hnd : ∀ c, o.op ≠ .defer c)
    (h : ∀ M w a, Rep M s w a → ∃ d v, (execOp a.eval o).run P w = .ok (.value v) w ∧ R M w d v ∧ K d s) : OpW P r o K Kp s :=
  opw_run hnd fun M w a hr => let ⟨d, v, h1, h2, h3⟩ := h M w a hr; ⟨v, w, M, s, d, .inl h1, hr, h2, Ext.refl M w, h3⟩

theorem opw_mem {P : Program} {r : Option Nat} {o : Oper} {K Kp : D → St → Prop} {s : St} (hnd : ∀ c, o.op ≠ .defer c)
    (h : ∀ M w a, Rep M s w a → ∃ v w' M' s' d, (execOp a.eval o).run P w = .ok (.value v) w' ∧ Rep M' s' w' a ∧ R M' w' d v ∧ Ext M w M' w' ∧ K d s') : OpW P r o K Kp s :=
  opw_run hnd fun M w a hr => let ⟨v, w', M', s', d, h1, h2⟩ := h M w a hr; ⟨v, w', M', s', d, .inl h1, h2⟩

theorem opt_R {M : Mem} {s : St} {w : World} {a : Act} (hr : Rep M s w a) (x : Option Operand) : (∀ d, x.map (valD s) = some d → ∃ u, x.map a.eval = some u ∧ R M w d u) ∧ (x.map (valD s) = none → x.map a.eval = none) := by
  cases x with
  | none => exact ⟨fun d h => by simp at h, fun _ => rfl⟩
  | some y => exact ⟨fun d h => by simp at h; subst h; exact ⟨_, rfl, hr.val y⟩, fun h => by simp at h⟩

theorem parts_R {M : Mem} {s : St} {w : World} {a : Act} (hr : Rep M s w a) (ps : Array (Nat × Operand)) : (ps.toList.map fun p => (p.1, valD s p.2)).length = (ps.map fun p => (p.1, a.eval p.2)).size ∧
    ∀ (j : Nat) p q, (ps.toList.map fun p => (p.1, valD s p.2))[j]? = some p → (ps.map fun p => (p.1, a.eval p.2))[j]? = some q → q.1 = p.1 ∧ R M w p.2 q.2 := by
  refine ⟨by simp, fun j p q hp hq => ?_⟩
  simp only [List.getElem?_map, Array.getElem?_toList, Option.map_eq_some_iff] at hp
  simp only [Array.getElem?_map, Option.map_eq_some_iff] at hq
  obtain ⟨y, hy, rfl⟩ := hp
  obtain ⟨z, hz, rfl⟩ := hq
  rw [hy] at hz
  cases hz
  exact ⟨rfl, hr.val _⟩

theorem fns_R {M : Mem} {s : St} {w : World} {a : Act} (hr : Rep M s w a) (xs : Array Operand) : (xs.map a.eval).size = (xs.toList.map (valD s)).length ∧ ∀ i d, (xs.toList.map (valD s))[i]? = some d → R M w d ((xs.map a.eval).getD i undef) := by
  refine ⟨by simp, fun i d h => ?_⟩
  simp only [List.getElem?_map, Array.getElem?_toList, Option.map_eq_some_iff] at h
  obtain ⟨x, hx, rfl⟩ := h
  rw [show (xs.map a.eval).getD i undef = a.eval x by simp [Array.getD_eq_getD_getElem?, hx]]
  exact hr.val x

theorem callFunc_run {P : Program} {g : FuncId} (h : enters P g = true) (args : Array Value) (w : World) : (callFunc g args).run P w = .ok (.enter g args) w := by
  unfold enters at h
  split at h
  · rename_i fn hfn
    simp only [Bool.and_eq_true, Bool.not_eq_true'] at h
    obtain ⟨hb, hn⟩ := h
    unfold callFunc
    simp only [Sem.run_bind, run_program, Result.andThen_ok, hfn]
    rw [if_neg (by rw [hn]; simp)]
    have : fn.body.isNone = false := by cases hb2 : fn.body <;> simp_all
    simp [this]
  · cases h

theorem fenced_WF (r : Option Nat) (P : Program) (m : Machine) : m.fenced P (WF r) := by
  intro g _
  refine ⟨fun h => ?_, Or.inl trivial, fun _ _ => trivial, fun _ h => ?_⟩
  · simp [WF] at h
  · simp [WF] at h

theorem callsIn_WF {r : Option Nat} {n : Nat} {P : Program} {f : FuncId} {args : Array Value} {w : World} {R : Ending → World → Prop} (h : Calls P f args w R) : CallsIn (WF r) n P f args w R := by
  refine ⟨trivial, fun cs _ => ?_⟩
  obtain ⟨e, w', fr, h1, h2, h3⟩ := h cs
  refine ⟨e, w', fr, h1, ?_, h3⟩
  cases e with
  | returned v => exact (StepsIn.of_steps h2).mono fun m _ => fenced_WF r P m
  | panicked c => exact (StepsIn.of_steps h2).mono fun m _ => fenced_WF r P m
  | outgrown => exact h2

theorem R.lit {M : Mem} {w : World} {v u : Value} (h : R M w (.i (.lit v)) u) : u = v := by
  cases h with
  | i _ _ h => cases h; rfl

theorem opw_call {P : Program} {r : Option Nat} {o : Oper} {K Kp : D → St → Prop} {s : St} {c : Call} {f : Operand} (hop : o.op = .call c) (hc : c.callee = .value f) (h : callP P (valD s f) (c.args.toList.map (valD s)) s K Kp) : OpW P r o K Kp s := by
  intro M w a hr next Q hK hKp
  refine ⟨fun _ _ => trivial, ?_⟩
  have hsem : o.semAt (WF r).round a.eval = execOp a.eval o := by
    unfold Oper.semAt
    split
    · rename_i _ h'; rw [hop] at h'; cases h'
    · rfl
  rw [hsem]
  have hf := hr.val f
  unfold callP at h
  split at h
  case h_2 => exact h.elim
  rename_i g first caps hfd
  rw [hfd] at hf
  obtain ⟨hen, h⟩ := h
  generalize hv : a.eval f = fv at hf
  cases hf with
  | fn _ _ _ v1 v2 h1 h2 r1 r2 =>
  have hrun : (execOp a.eval o).run P w = .ok (.enter g (v1 ++ c.args.map a.eval ++ v2)) w := by
    unfold execOp
    simp only [hop, resolve, hc, hv, Deferred.ofValue, Sem.run_bind, Sem.run_pure, Result.andThen_ok, invoke]
    exact callFunc_run hen _ w
  rw [hrun]
  refine ⟨fun h => by simp [WF] at h, callsIn_WF ((h M w a hr (v1 ++ c.args.map a.eval ++ v2) ?_ ?_).mono ?_)⟩
  · simp [h1, h2]
  · obtain ⟨g1, g2⟩ := fns_R hr c.args
    intro i d hi
    rw [get_append3] at hi
    have hsz : (c.args.map a.eval).size = (c.args.toList.map (valD s)).length := g1
    by_cases c1 : i < first.length
    · rw [if_pos c1] at hi
      have := r1 i d hi
      rwa [show (v1 ++ c.args.map a.eval ++ v2).getD i undef = v1.getD i undef by
        simp only [Array.getD_eq_getD_getElem?]
        rw [Array.append_assoc, Array.getElem?_append_left (by omega)]]
    · rw [if_neg c1] at hi
      by_cases c2 : i < first.length + (c.args.toList.map (valD s)).length
      · rw [if_pos c2] at hi
        have := g2 _ d hi
        rwa [show (v1 ++ c.args.map a.eval ++ v2).getD i undef = (c.args.map a.eval).getD (i - first.length) undef by
          simp only [Array.getD_eq_getD_getElem?]
          rw [Array.append_assoc, Array.getElem?_append_right (by omega), Array.getElem?_append_left (by omega), h1]]
      · rw [if_neg c2] at hi
        have := r2 _ d hi
        rwa [show (v1 ++ c.args.map a.eval ++ v2).getD i undef = v2.getD (i - first.length - (c.args.toList.map (valD s)).length) undef by
          simp only [Array.getD_eq_getD_getElem?]
          rw [Array.getElem?_append_right (by simp only [Array.size_append]; omega)]
          congr 2
          simp only [Array.size_append]; omega]
  · rintro e w' ⟨M', s', d, v, e1, e2, e3, (⟨rfl, e4⟩ | ⟨rfl, e4⟩)⟩
    · exact hK M' s' w' v d e1 e3 e2 e4
    · exact hKp M' s' w' v d e1 e3 e2 e4

theorem opP_ok {P : Program} {r : Option Nat} {o : Oper} {K Kp : D → St → Prop} {s : St} {k : Nat} (hk : s.nx ≤ k) {op : Op} (hop : o.op = op) (h : opP P s k op K Kp) : OpW P r o K Kp s := by
  cases op <;> simp only [opP] at h
  case move x =>
    exact opw_val (by rw [hop]; simp) fun M w a hr => ⟨_, _, by simp only [execOp, hop, Sem.run_pure], hr.val x, h⟩
  case assign x =>
    exact opw_val (by rw [hop]; simp) fun M w a hr => ⟨_, _, by simp only [execOp, hop, Sem.run_pure], hr.val x, h⟩
  case pick c x y =>
    split at h
    case h_2 => exact h.elim
    rename_i t ht
    refine opw_val (by rw [hop]; simp) fun M w a hr => ⟨_, _, ?_, pickD_R t (hr.val x) (hr.val y), h⟩
    have hc := hr.val c
    rw [ht] at hc
    have hc := hc.lit
    simp only [execOp, hop, hc, asBool, Sem.run_bind, Sem.run_pure, Result.andThen_ok]
  case alloc t =>
    split at h
    case h_2 => exact h.elim
    rename_i ti hti
    obtain ⟨it, dt, zt, ht⟩ := tiOf_spec hti
    refine opw_mem (by rw [hop]; simp) fun M w a hr => ?_
    obtain ⟨u, w', M', h1, h2, h3, h4⟩ := alloc_ok ht hr k hk
    exact ⟨u, w', M', _, _, by simp only [execOp, hop, Sem.run_bind, h1, Result.andThen_ok, Sem.run_pure], h2, h3, h4, h⟩
  case box t x =>
    obtain ⟨hx, h⟩ := h
    refine opw_mem (by rw [hop]; simp) fun M w a hr => ?_
    obtain ⟨u, w', M', h1, h2, h3, h4⟩ := box_ok (P := P) hr k hk t (hr.val x) hx
    exact ⟨u, w', M', _, _, by simp only [execOp, hop, Sem.run_bind, h1, Result.andThen_ok, Sem.run_pure], h2, h3, h4, h⟩
  case build t ps =>
    obtain ⟨hne, h⟩ := h
    refine opw_val (by rw [hop]; simp) fun M w a hr => ?_
    obtain ⟨g1, g2⟩ := parts_R hr ps
    obtain ⟨y, u, h1, h2, h3⟩ := build_ok (M := M) (w := w) h (by simpa using hne) g1 g2
    exact ⟨y, u, by simp only [execOp, hop, Sem.run_bind, h1, Result.andThen_ok, Sem.run_pure], h2, h3⟩
  case buildSlice t n ps =>
    refine opw_mem (by rw [hop]; simp) fun M w a hr => ?_
    obtain ⟨g1, g2⟩ := parts_R hr ps
    obtain ⟨u, w', M', s', d, h1, h2⟩ := buildSlice_ok (P := P) hr k hk h g1 g2
    exact ⟨u, w', M', s', d, by simp only [execOp, hop, Sem.run_bind, h1, Result.andThen_ok, Sem.run_pure], h2⟩
  case load t x =>
    split at h
    case h_2 => exact h.elim
    rename_i ti hti
    obtain ⟨it, dt, zt, ht⟩ := tiOf_spec hti
    refine opw_val (by rw [hop]; simp) fun M w a hr => ?_
    obtain ⟨y, u, h1, h2, h3⟩ := load_ok ht hr h (hr.val x)
    exact ⟨y, u, by simp only [execOp, hop, Sem.run_bind, h1, Result.andThen_ok, Sem.run_pure], h2, h3⟩
  case store t x y =>
    split at h
    case h_2 => exact h.elim
    rename_i ti hti
    obtain ⟨it, dt, zt, ht⟩ := tiOf_spec hti
    refine opw_run (by rw [hop]; simp) fun M w a hr => ?_
    obtain ⟨w', s', h1, h2, h3, h4⟩ := store_ok ht hr h (hr.val x) (hr.val y)
    exact ⟨undef, w', M, s', .any, .inr ⟨by simp only [execOp, hop, Sem.run_bind, h1, Result.andThen_ok, Sem.run_pure], rfl⟩, h2, .any _, h3, h4⟩
  case nilCheck x =>
    refine opw_val (by rw [hop]; simp) fun M w a hr => ?_
    have hx := hr.val x
    generalize hd : valD s x = d at hx h
    generalize hv : a.eval x = v at hx
    cases hx <;> (try simp only at h) <;> (try exact h.elim)
    case pt l b o hl => exact ⟨_, _, by simp only [execOp, hop, hv, Sem.run_pure], .pt l b o hl, h⟩
    case el row o b off V e1 e2 e3 => exact ⟨_, _, by simp only [execOp, hop, hv, Sem.run_pure], .el row o b off V e1 e2 e3, h⟩
    case ea l sz i o v b e1 e2 => exact ⟨_, _, by simp only [execOp, hop, hv, Sem.run_pure], .ea l sz i o v b e1 e2, h⟩
    case fn f first caps v1 v2 e1 e2 e3 e4 =>
      cases f <;> (try simp only at h) <;> (try exact h.elim)
      exact ⟨_, _, by simp only [execOp, hop, hv, Sem.run_pure], .fn _ first caps v1 v2 e1 e2 e3 e4, h⟩
    case yl l b F e1 e2 => exact ⟨_, _, by simp only [execOp, hop, hv, Sem.run_pure], .yl l b F e1 e2, h⟩
  case binOp op t x y t' =>
    refine opw_val (by rw [hop]; simp) fun M w a hr => ?_
    obtain ⟨z, q, h1, h2, h3⟩ := bin_ok h (hr.val x) (hr.val y) x y
    exact ⟨z, q, by unfold execOp; simp only [hop]; rw [Sem.run_bind, h1]; rfl, h2, h3⟩
  case unOp op t x =>
    refine opw_val (by rw [hop]; simp) fun M w a hr => ?_
    obtain ⟨z, q, h1, h2, h3⟩ := un_ok (P := P) h (hr.val x)
    exact ⟨z, q, by simp only [execOp, hop, Sem.run_bind, h1, Result.andThen_ok, Sem.run_pure], h2, h3⟩
  case convert src dst x =>
    refine opw_val (by rw [hop]; simp) fun M w a hr => ?_
    obtain ⟨z, q, h1, h2, h3⟩ := conv_ok h (hr.val x)
    exact ⟨z, q, by simp only [execOp, hop, Sem.run_bind, h1, Result.andThen_ok, Sem.run_pure], h2, h3⟩
  case makeInterface t x =>
    split at h
    case h_2 => exact h.elim
    rename_i ti hti
    obtain ⟨it, dt, zt, ht⟩ := tiOf_spec hti
    obtain ⟨hi, h⟩ := h
    refine opw_val (by rw [hop]; simp) fun M w a hr => ⟨_, _, ?_, mkIfc_R t (hr.val x), h⟩
    have : (Instr.makeInterface t (a.eval x)).run P w = .ok (.iface t (a.eval x)) w := by
      unfold Instr.makeInterface
      simp only [Sem.run_bind, run_underlying ht.und, Result.andThen_ok]
      have hk' := ht.k
      cases dt <;> first | rfl | exact absurd hk' hi
    simp only [execOp, hop, Sem.run_bind, this, Result.andThen_ok, Sem.run_pure]
  case makeFunc fn first caps =>
    refine opw_val (by rw [hop]; simp) fun M w a hr => ?_
    obtain ⟨g1, g2⟩ := fns_R hr first
    obtain ⟨g3, g4⟩ := fns_R hr caps
    exact ⟨_, _, by simp only [execOp, hop, Instr.makeFunc, Sem.run_bind, Sem.run_pure, Result.andThen_ok], .fn fn _ _ _ _ g1 g3 g2 g4, h⟩
  case makeSlice t l c =>
    refine opw_mem (by rw [hop]; simp) fun M w a hr => ?_
    obtain ⟨u, w', M', s', d, h1, h2⟩ := make_ok hr k hk h (hr.val l) (hr.val c)
    exact ⟨u, w', M', s', d, by simp only [execOp, hop, Sem.run_bind, h1, Result.andThen_ok, Sem.run_pure], h2⟩
  case slice t x lo hi mx =>
    refine opw_val (by rw [hop]; simp) fun M w a hr => ?_
    obtain ⟨l1, l2⟩ := opt_R hr lo
    obtain ⟨h1, h2⟩ := opt_R hr hi
    obtain ⟨m1, m2⟩ := opt_R hr mx
    obtain ⟨y, q, e1, e2, e3⟩ := slice_ok h (hr.val x) l1 l2 h1 h2 m1 m2
    exact ⟨y, q, by simp only [execOp, hop, Sem.run_bind, e1, Result.andThen_ok, Sem.run_pure], e2, e3⟩
  case fieldAddr t x f =>
    refine opw_val (by rw [hop]; simp) fun M w a hr => ?_
    obtain ⟨y, q, e1, e2, e3⟩ := fieldAddr_ok h (hr.val x)
    exact ⟨y, q, by simp only [execOp, hop, Sem.run_bind, e1, Result.andThen_ok, Sem.run_pure], e2, e3⟩
  case field t x f =>
    refine opw_val (by rw [hop]; simp) fun M w a hr => ?_
    obtain ⟨y, q, e1, e2, e3⟩ := field_ok h (hr.val x)
    exact ⟨y, q, by simp only [execOp, hop, Sem.run_bind, e1, Result.andThen_ok, Sem.run_pure], e2, e3⟩
  case indexAddr t x ix =>
    refine opw_val (by rw [hop]; simp) fun M w a hr => ?_
    obtain ⟨y, q, e1, e2, e3⟩ := indexAddr_ok hr h (hr.val x) (hr.val ix)
    exact ⟨y, q, by simp only [execOp, hop, Sem.run_bind, e1, Result.andThen_ok, Sem.run_pure], e2, e3⟩
  case index t x ix =>
    refine opw_val (by rw [hop]; simp) fun M w a hr => ?_
    obtain ⟨y, q, e1, e2, e3⟩ := index_ok h (hr.val x) (hr.val ix)
    exact ⟨y, q, by simp only [execOp, hop, Sem.run_bind, e1, Result.andThen_ok, Sem.run_pure], e2, e3⟩
  case extract x i =>
    split at h
    case h_2 => exact h.elim
    rename_i l hl
    split at h
    case h_2 => exact h.elim
    rename_i d hd
    refine opw_val (by rw [hop]; simp) fun M w a hr => ?_
    have hx := hr.val x
    rw [hl] at hx
    generalize hv : a.eval x = v at hx
    cases hx with
    | tup _ vs hs hx =>
    refine ⟨d, vs.getD i undef, ?_, hx i d hd, h⟩
    have hi : i < vs.size := by rw [hs]; exact (List.getElem?_eq_some_iff.1 hd).1
    simp [execOp, hop, hv, Instr.extract, hi, Array.getD_eq_getD_getElem?]
  case call c =>
    split at h
    case h_1 hc =>
      split at h
      case h_2 => exact h.elim
      rename_i t x hts hxs
      refine opw_val (by rw [hop]; simp) fun M w a hr => ?_
      obtain ⟨y, q, e1, e2, e3⟩ := len_ok (ty := o.type) hr h (hr.val x)
      refine ⟨y, q, ?_, e2, e3⟩
      have a1 : c.argTypes = #[t] := by rw [← Array.toArray_toList (xs := c.argTypes), hts]
      have a2 : c.args = #[x] := by rw [← Array.toArray_toList (xs := c.args), hxs]
      simp only [execOp, hop, resolve, hc, invoke, builtin, Sem.run_bind, Sem.run_pure, Result.andThen_ok, a1, a2, List.map_toArray, List.map_cons, List.map_nil, e1]
    case h_2 hc =>
      split at h
      case h_2 => exact h.elim
      rename_i t t' x y hts hxs
      obtain ⟨rfl, h⟩ := h
      refine opw_mem (by rw [hop]; simp) fun M w a hr => ?_
      obtain ⟨q, w', M', s', d, e1, e2⟩ := append_ok (ty := o.type) hr k hk h (hr.val x) (hr.val y)
      refine ⟨q, w', M', s', d, ?_, e2⟩
      have a1 : c.argTypes = #[t, t] := by rw [← Array.toArray_toList (xs := c.argTypes), hts]
      have a2 : c.args = #[x, y] := by rw [← Array.toArray_toList (xs := c.args), hxs]
      simp only [execOp, hop, resolve, hc, invoke, builtin, Sem.run_bind, Sem.run_pure, Result.andThen_ok, a1, a2, List.map_toArray, List.map_cons, List.map_nil, e1]
    case h_3 hc =>
      split at h
      case h_2 => exact h.elim
      rename_i x y hxs
      split at h
      case h_2 => exact h.elim
      rename_i k' u k'' v hx hy
      refine opw_val (by rw [hop]; simp) fun M w a hr => ?_
      have ex := hr.val x
      rw [hx] at ex
      have ey := hr.val y
      rw [hy] at ey
      refine ⟨_, .int k' (if v > u then v else u), ?_, .i _ _ (.lit _ trivial), h⟩
      have a2 : c.args = #[x, y] := by rw [← Array.toArray_toList (xs := c.args), hxs]
      simp only [execOp, hop, resolve, hc, invoke, builtin, Sem.run_bind, Sem.run_pure, Result.andThen_ok, a2, List.map_toArray, List.map_cons, List.map_nil, ex.lit, ey.lit, run_max_int2]
    case h_4 hc =>
      split at h
      case h_2 => exact h.elim
      rename_i x y hxs
      split at h
      case h_2 => exact h.elim
      rename_i k' u k'' v hx hy
      refine opw_val (by rw [hop]; simp) fun M w a hr => ?_
      have ex := hr.val x
      rw [hx] at ex
      have ey := hr.val y
      rw [hy] at ey
      refine ⟨_, .int k' (if v < u then v else u), ?_, .i _ _ (.lit _ trivial), h⟩
      have a2 : c.args = #[x, y] := by rw [← Array.toArray_toList (xs := c.args), hxs]
      simp only [execOp, hop, resolve, hc, invoke, builtin, Sem.run_bind, Sem.run_pure, Result.andThen_ok, a2, List.map_toArray, List.map_cons, List.map_nil, ex.lit, ey.lit, run_min_int2]
    case h_5 f hc => exact opw_call hop hc h
    case h_6 => exact h.elim

/-! ### Regions -/
def guardP (gd : Nat → Option Tmp) (s : St) (g : Option (Nat × Bool)) (A B : Prop) : Prop :=
  match g with
  | none => A
  | some (j, want) => (match gd j with
    | some t => (match look s.tm t with
      | some (.i (.lit (.bool b))) => if (b == want) = true then A else B
      | some .un => B
      | _ => False)
    | none => False)

/-- A bool on which later operations hang is taken to be the one, and the other. -/
def splitP (g : Bool) (d : D) (A : D → Prop) : Prop :=
  match g, d with
  | true, .i (.lit (.bool b)) => (b = true → A (.i (.lit (.bool true)))) ∧ (b = false → A (.i (.lit (.bool false))))
  | _, d => A d

def isG (ops : List Oper) (i : Nat) : Bool := ops.any fun o => match o.guard with | some (j, _) => i == j | none => false

def execR (P : Program) (gd : Nat → Option Tmp) (ig : Nat → Bool) : Nat → List Oper → St → (St → Prop) → (D → St → Prop) → Prop
  | _, [], s, K, _ => K s
  | i, o :: rest, s, K, Kp => guardP gd s o.guard (opP P s s.nx o.op (fun d s' => s'.room o.dst ∧ splitP (ig i) d fun d' => execR P gd ig (i + 1) rest (s'.put o.dst d') K Kp) Kp)
      (s.room o.dst ∧ execR P gd ig (i + 1) rest (s.put o.dst .un) K Kp)

theorem splitP_ok {g : Bool} {d : D} {A : D → Prop} (h : splitP g d A) {M : Mem} {w : World} {v : Value} (hv : R M w d v) : ∃ d', R M w d' v ∧ A d' := by
  unfold splitP at h
  split at h
  · rename_i b
    have := hv.lit
    subst this
    cases b with
    | true => exact ⟨_, hv, h.1 rfl⟩
    | false => exact ⟨_, hv, h.2 rfl⟩
  · exact ⟨_, hv, h⟩

theorem execR_ok {P : Program} {r : Option Nat} {ops : Array Oper} {ig : Nat → Bool} {K : St → Prop} {Kp : D → St → Prop} {Q : Exit → Act → World → Prop} {M0 : Mem} {w0 : World}
    (hK : ∀ M s w a, Rep M s w a → Ext M0 w0 M w → K s → Q .normal a w) (hKp : ∀ M s w a d v, Rep M s w a → R M w d v → Ext M0 w0 M w → Kp d s → Q (.panic [{ v := v, recovered := false }]) a w) :
    ∀ (l : List Oper) (i : Nat), (∀ j o, l[j]? = some o → ops[i + j]? = some o) → i + l.length = ops.size → ∀ s, execR P (fun j => (ops[j]?).bind (·.dst)) ig i l s K Kp → ∀ M w a, Rep M s w a → Ext M0 w0 M w →
      wpOpsIn (WF r) 0 P ops Q (List.range' i l.length) a w
  | [], i, _, _, s, h, M, w, a, hr, he => hK M s w a hr he h
  | o :: rest, i, hl, hn, s, h, M, w, a, hr, he => by
    have ho : ops[i]? = some o := by simpa using hl 0 o rfl
    simp only [List.length_cons, List.range'_succ, wpOpsIn, ho]
    have ih := execR_ok (P := P) (r := r) (ig := ig) hK hKp rest (i + 1) (fun j o' hj => by have := hl (j + 1) o' (by simpa using hj); rwa [show i + (j + 1) = i + 1 + j by omega] at this) (by simp at hn; omega)
    have run : opP P s s.nx o.op (fun d s' => s'.room o.dst ∧ splitP (ig i) d fun d' => execR P (fun j => (ops[j]?).bind (·.dst)) ig (i + 1) rest (s'.put o.dst d') K Kp) Kp →
        o.wpIn (WF r) 0 P a w (wpOpsIn (WF r) 0 P ops Q (List.range' (i + 1) rest.length)) Q := fun h =>
      opP_ok (r := r) (o := o) (Nat.le_refl _) rfl h M w a hr _ _ (fun M' s' w' v d e1 e2 e3 e4 => by
        obtain ⟨d', f1, f2⟩ := splitP_ok e4.2 e2
        exact ih _ f2 M' w' _ (e1.put f1 e4.1) (he.trans e3)) (fun M' s' w' v d e1 e2 e3 e4 => hKp M' s' w' a d v e1 e2 (he.trans e3) e4)
    have skip : (s.room o.dst ∧ execR P (fun j => (ops[j]?).bind (·.dst)) ig (i + 1) rest (s.put o.dst .un) K Kp) → (∀ f, o.about P w a.eval = some f → (WF r).fn f) ∧ wpOpsIn (WF r) 0 P ops Q (List.range' (i + 1) rest.length) (a.put o.dst undef) w :=
      fun h => ⟨fun _ _ => trivial, ih _ h.2 M w _ (hr.put .un h.1) he⟩
    simp only [execR] at h
    cases hg : o.guard with
    | none =>
      rw [hg] at h
      rw [if_pos (by simp [Region.wanted, hg])]
      exact run h
    | some p =>
      obtain ⟨j, want⟩ := p
      rw [hg] at h
      simp only [guardP] at h
      split at h
      case h_2 => exact h.elim
      rename_i t ht
      split at h
      case h_3 => exact h.elim
      · rename_i b hb
        have hv := (hr.tm t _ hb).lit
        have hts : t < a.tmps.size := by
          by_cases hlt : t < a.tmps.size
          · exact hlt
          · rw [Array.getD_eq_getD_getElem?, Array.getElem?_eq_none (Nat.le_of_not_lt hlt)] at hv
            simp [undef] at hv
        have hy : yielded ops a.tmps j = some b := by
          unfold yielded
          rw [ht]
          rw [Array.getD_eq_getD_getElem?] at hv
          cases hq : a.tmps[t]? with
          | none => rw [Array.getElem?_eq_getElem hts] at hq; cases hq
          | some q =>
            rw [hq] at hv
            simp only [Option.getD_some] at hv
            subst hv
            simp [hq]
        by_cases hbw : b = want
        · rw [if_pos (by simp [Region.wanted, hg, hy, hbw])]
          rw [if_pos (by simp [hbw])] at h
          exact run h
        · rw [if_neg (by simp [Region.wanted, hg, hy, hbw])]
          rw [if_neg (by simpa using hbw)] at h
          exact skip h
      · rename_i hb
        have hv := hr.tm t _ hb
        have hy : yielded ops a.tmps j = none := by
          unfold yielded
          rw [ht]
          simp only [Option.bind_some]
          rw [Array.getD_eq_getD_getElem?] at hv
          cases hq : a.tmps[t]? with
          | none => rfl
          | some q =>
            rw [hq] at hv
            simp only [Option.getD_some] at hv
            cases hv
            rfl
        rw [if_neg (by simp [Region.wanted, hg, hy])]
        exact skip h

theorem awp_region {P : Program} {r : Option Nat} {id : Nat} {l : List Oper} {Q : AExit → St → Prop} {s : St} (h : execR P (fun j => (l[j]?).bind (·.dst)) (isG l) 0 l s (Q .normal) (fun d s => Q (.panic d) s)) : AWP P r (.region id l.toArray false) Q s := by
  intro M w a hr
  refine wpIn_region ?_
  rw [List.range_eq_range']
  have := execR_ok (P := P) (r := r) (ig := isG l) (ops := l.toArray) (K := Q .normal) (Kp := fun d s => Q (.panic d) s) (M0 := M) (w0 := w)
    (Q := fun e a' w' => ∃ x M' s', RExit M' w' x e ∧ Rep M' s' w' a' ∧ Ext M w M' w' ∧ Q x s')
    (fun M' s' w' a' e1 e2 e3 => ⟨.normal, M', s', trivial, e1, e2, e3⟩) (fun M' s' w' a' d v e1 e2 e3 e4 => ⟨.panic d, M', s', ⟨v, rfl, e2⟩, e1, e3, e4⟩) l 0 (fun j o hj => by simpa using hj) (by simp) s (by simpa using h) M w a hr (Ext.refl M w)
  simpa using this

end Go.Aw
