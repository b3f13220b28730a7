/-
  Maps, upon symbolic data: regions, one operation after the other; ranges over maps in any order.
-/
import Derived.Test.YthlebppdhipanaaSyY
import Derived.Test.YthlebppdhipanaaEvb
import Derived.Test.YthlebppdhipanaaSyV
import Derived.Shelf.Sort.AssemblysIn
import Derived.Sort.EveryDepth
set_option linter.all false
namespace Go.Ev
open Go.Aw (WF enters tiOf halloc_old halloc_new)

/-! ### One operation after the other -/
def EndsS (rl r : Option Nat) (I : Gh) (zs : Nat → Value) (Q : X → S → Prop) : Exit → Act → World → Prop := fun e a' w' => ∃ x M' s', RX M' x e ∧ SRep zs M' s' w' a' ∧ I.at s'.g M' w' ∧ RelR M' rl r ∧ Q x s'

/-- What is left of a region, from an operation on. -/
def SeqOk (P : Program) (rl : Option Nat) (I : Gh) (l : List Oper) (b : Nat) (Q : X → S → Prop) (s : S) : Prop :=
  ∀ r M w a zs, RelR M rl r → SRep zs M s w a → I.at s.g M w → wpOpsIn (WF r) 0 P l.toArray (EndsS rl r I zs Q) (List.range' b (l.length - b)) a w

section
variable {P : Program} {rl : Option Nat} {I : Gh} {Q : X → S → Prop} {l : List Oper} {b : Nat} {s : S} {o : Oper}

theorem w_seqOk {id : Nat} (h : SeqOk P rl I l 0 Q s) : W P rl I (.region id l.toArray false) Q s := by
  intro r M w a zs hrl hr hg
  refine wpIn_region ?_
  have := h r M w a zs hrl hr hg
  rw [Nat.sub_zero, ← List.range_eq_range'] at this
  rw [List.size_toArray]
  exact this

theorem seqOk_nil (hb : l.length ≤ b) (h : Q .normal s) : SeqOk P rl I l b Q s := fun r M w a zs hrl hr hg => by
  rw [show l.length - b = 0 by omega]
  exact ⟨.normal, M, s, trivial, hr, hg, hrl, h⟩

theorem seqOk_cons (ho : l[b]? = some o) (hg : o.guard = none) (h : OpS P rl I true o s (fun s' => SeqOk P rl I l (b + 1) Q s') (fun d s' => Q (.panic d) s')) : SeqOk P rl I l b Q s := fun r M w a zs hrl hr hgh => by
  have hlt := (List.getElem?_eq_some_iff.1 ho).1
  rw [show l.length - b = (l.length - (b + 1)) + 1 by omega, List.range'_succ]
  have ho' : l.toArray[b]? = some o := by simpa using ho
  simp only [wpOpsIn, ho']
  have hw : Region.wanted o (yielded l.toArray a.tmps) = true := by simp [Region.wanted, hg]
  rw [if_pos hw]
  exact (h r M w a zs (wpOpsIn (WF r) 0 P l.toArray (EndsS rl r I zs Q) (List.range' (b + 1) (l.length - (b + 1)))) (EndsS rl r I zs Q) hrl hr hgh
    (fun M' s' w' a' g1 g2 g3 g4 => g4 r M' w' a' zs g3 g1 g2) (fun M' s' w' v d g1 g2 g3 g4 g5 => ⟨.panic d, M', s', ⟨v, rfl, g4⟩, g1, g2, g3, g5⟩)).1 rfl

@[congr] theorem seqOk_congr {s' : S} (h : s = s') : SeqOk P rl I l b Q s = SeqOk P rl I l b Q s' := by rw [h]

/-- As ever. -/
theorem seqOk_step (ho : l[b]? = some o) (hg : o.guard = none) (hnp : noPanic o.op = true) (h : stepS P rl I true o s (fun s' => SeqOk P rl I l (b + 1) Q s') (fun d s' => Q (.panic d) s')) : SeqOk P rl I l b Q s :=
  seqOk_cons ho hg (stepS_ok (fun _ => rfl) (fun x hx => by rw [hx] at hnp; cases hnp) h)

theorem opS_bop {K : S → Prop} {Kp : D → S → Prop} {d : D} {hp' : List (Nat × Blk)} {nx' : Nat} (hnd : ∀ c, o.op ≠ .defer c) (h : BOp P s.hp s.nx s.uv o.op d hp' nx') (hso : strictO s.val o.op.operands.toList) (hro : s.room o.dst) (hK : K ({ s with hp := hp', nx := nx' }.put o.dst d)) : OpS P rl I true o s K Kp := by
  intro r M w a zs next Q hrl hr hgh hn _
  refine ⟨fun _ => ?_, fun he => by cases he⟩
  refine did_next hnd (h M w hr.h a.eval (hr.uv hso) o rfl) next Q fun M' w' v g1 g2 g3 => ?_
  exact hn M' _ w' _ ((hr.mono g3.le g1).put g2 hro) (by rw [S.put_g]; exact hgh.mono g3.w) (hrl.mono g3.le) hK

/-- A new map. -/
theorem seqOk_make {t : TypeId} (ho : l[b]? = some o) (hop : o.op = .makeMap t none) (hg : o.guard = none) (hro : s.room o.dst) (h : SeqOk P rl I l (b + 1) Q ({ s with hp := up s.hp s.nx (.map []), nx := s.nx + 1 }.put o.dst (.mp s.nx))) : SeqOk P rl I l b Q s :=
  seqOk_cons ho hg (opS_bop (by rw [hop]; simp) (bop_opE (h' := (makeMapE { hp := toT s.hp, nx := s.nx }).2) (by rw [hop]; rfl) (fun l => by rw [toT_up]; rfl) rfl) (by rw [hop]; exact trivial) hro h)

/-- What is put into a map. -/
def putM (k : Value) (d : D) (es : List (Value × D)) : Option (Nat × D) → List (Value × D)
  | some (j, _) => es.set j (k, d)
  | none => es ++ [(k, d)]
theorem opS_mput {K : S → Prop} {Kp : D → S → Prop} {t : TypeId} {x k v : Operand} {m : Nat} {kv : Value} {ti : Aw.TI} {kt : TypeId} {es : List (Value × D)} {f : Option (Nat × D)} (hop : o.op = .mapUpdate t x k v) (hso : strictO s.val [x, k, v]) (hx : s.uv x = .mp m) (hk : keyVal (s.uv k) = some kv) (ht : mapTI P t kv = some (ti, kt)) (hm : lk s.hp m = some (.map es)) (hf : findG P kt kv es = some f) (hro : s.room o.dst)
    (h : K ({ s with hp := up s.hp m (.map (putM kv (s.uv v) es f)) }.put o.dst .un)) : OpS P rl I true o s K Kp := by
  refine opS_bop (by rw [hop]; simp) (bop_opE (h' := { hp := (toT s.hp).set m (.map (putM kv (s.uv v) es f)), nx := s.nx }) ?_ (fun l => toT_up l) rfl) (by rw [hop]; exact hso) hro h
  rw [hop]
  simp only [opE, mapUpdateE, hk, ht, hx, get_toT, hm, hf]
  cases f with
  | none => rfl
  | some p => obtain ⟨j, d⟩ := p; rfl

/-- What stands in a map. -/
def getM (ti : Aw.TI) (c : Bool) : Option (Nat × D) → Option D
  | some (_, d) => some (pairOkD c d true)
  | none => (zeroD ti).map fun z => pairOkD c z false
theorem opS_mget {K : S → Prop} {Kp : D → S → Prop} {t : TypeId} {x k : Operand} {c : Bool} {m : Nat} {kv : Value} {ti : Aw.TI} {kt : TypeId} {es : List (Value × D)} {f : Option (Nat × D)} {d : D} (hop : o.op = .lookup t x k c) (hso : strictO s.val [x, k]) (hx : s.uv x = .mp m) (hk : keyVal (s.uv k) = some kv) (ht : mapTI P t kv = some (ti, kt)) (hm : lk s.hp m = some (.map es)) (hf : findG P kt kv es = some f) (hd : getM ti c f = some d) (hro : s.room o.dst)
    (h : K (s.put o.dst d)) : OpS P rl I true o s K Kp := by
  refine opS_bop (hp' := s.hp) (nx' := s.nx) (by rw [hop]; simp) (bop_opE (h' := { hp := toT s.hp, nx := s.nx }) ?_ (fun l => rfl) rfl) (by rw [hop]; exact hso) hro h
  rw [hop]
  simp only [opE, lookupE, hk, ht, hx, get_toT, hm, hf]
  cases f with
  | none => simp only [getM] at hd; rw [hd]; rfl
  | some p => obtain ⟨j, d⟩ := p; simp only [getM, Option.some.injEq] at hd; subst hd; rfl

/-- How many stand in it. -/
theorem opS_mlen {K : S → Prop} {Kp : D → S → Prop} {c : Call} {x : Operand} {t : TypeId} {m : Nat} {es : List (Value × D)} {kt et : TypeId} (hop : o.op = .call c) (hc : c.callee = .builtin .len) (ha : c.args = #[x]) (hta : c.argTypes = #[t]) (ht : P.underlying t = some (.map kt et)) (hso : strictO s.val o.op.operands.toList) (hx : s.uv x = .mp m) (hm : lk s.hp m = some (.map es)) (hro : s.room o.dst)
    (h : K (s.put o.dst (.lit (.int .i64 es.length)))) : OpS P rl I true o s K Kp := by
  refine opS_bop (hp' := s.hp) (nx' := s.nx) (by rw [hop]; simp) (fun M w hr ρ hf o' ho' => ?_) hso hro h
  have hv := hf x (by rw [hop]; simp [Op.operands, Call.operands, hc, ha])
  rw [hx] at hv
  cases hv' : ρ x <;> rw [hv'] at hv <;> cases hv
  rename_i b hat
  obtain ⟨c0, _, arr, g2, g3, _⟩ := hr.look (by rw [get_toT]; exact hm) hat
  refine did_val hr (.int .i64 es.length) ?_ (.lit _ trivial)
  have hop' : o'.op = .call c := ho'.trans hop
  simp [execOp, hop', resolve, hc, invoke, builtin, ha, hta, hv', Builtin.len_, run_underlying ht, MapKept.run_getObj_map g2, g3, Result.andThen, goInt]

/-- A range over a map begins. -/
theorem opS_range {K : S → Prop} {Kp : D → S → Prop} {t : TypeId} {x : Operand} {m : Nat} {es : List (Value × D)} {kt et : TypeId} (hop : o.op = .range t x) (ht : P.underlying t = some (.map kt et)) (hso : strictO s.val [x]) (hx : s.uv x = .mp m) (hm : lk s.hp m = some (.map es)) (hro : s.room o.dst)
    (h : K ({ s with hp := up s.hp s.nx (.mit (some m) es.length [] es.length), nx := s.nx + 1 }.put o.dst (.pt s.nx 0))) : OpS P rl I true o s K Kp := by
  refine opS_bop (by rw [hop]; simp) (bop_opE (h' := { hp := (toT s.hp).set s.nx (.mit (some m) es.length [] es.length), nx := s.nx + 1 }) ?_ (fun l => toT_up l) rfl) (by rw [hop]; exact hso) hro h
  rw [hop]
  simp only [opE, rangeE, ht, hx, get_toT, hm]
end

/-! ### The next entry, whichever it is -/
theorem run_mapNext {P : Program} {w : World} {n : Nat} (hn : 0 < n) : ∃ c k, c < n ∧ (choose (.mapNext n)).run P w = .ok c { w with drawn := k } := by
  by_cases h1 : n ≤ 1
  · exact ⟨0, w.drawn, hn, by simp [choose, Sem.run, Question.forced, h1]⟩
  · refine ⟨w.tape w.drawn (.mapNext n) % n, w.drawn + 1, Nat.mod_lt _ hn, ?_⟩
    simp [choose, Sem.run, Question.forced, h1, Question.cut]

theorem next_run {P : Program} {M : Mem} {h : H} {w : World} (hr : RH M h w) {i m : Nat} {es : List (Value × D)} {seen : List Nat} (hi : h.hp.get i = some (.mit (some m) es.length seen es.length)) (hm : h.hp.get m = some (.map es)) {v : Value} (hv : R M (.pt i 0) v) (t : TypeId) :
    (∃ w', (Instr.next v false t).run P w = .ok (.tuple #[.bool false]) w' ∧ RH M h w' ∧ Ext M w M w' ∧ ∀ j, j < es.length → j ∈ seen) ∨
    ∃ j k d u w', es[j]? = some (k, d) ∧ j ∉ seen ∧ (Instr.next v false t).run P w = .ok u w' ∧ R M (.tup [.lit (.bool true), dV k, d]) u ∧ RH M { h with hp := h.hp.set i (.mit (some m) es.length (seen ++ [j]) es.length) } w' ∧ Ext M w M w' := by
  cases hv with
  | pt _ _ b ha =>
  obtain ⟨c, hμ, ob, g2, g3⟩ := hr.look hi ha
  cases ob with
  | none => exact g3.elim
  | some bm =>
  obtain ⟨c', _, arr, k1, k2, k3⟩ := hr.look hm g3
  have hborn : ∀ (j : Nat) e, arr[j]? = some e → e.born = j ∧ ∃ k d, es[j]? = some (k, d) ∧ e.key = k ∧ R M d e.val ∧ keyOk k := fun j e hj => by
    have hlt : j < es.length := by rw [← k2]; exact (Array.getElem?_eq_some_iff.1 hj).1
    obtain ⟨e', q1, q2, q3, q4, q5⟩ := k3 j es[j] (List.getElem?_eq_getElem hlt)
    rw [hj] at q1
    cases q1
    exact ⟨q4, es[j].1, es[j].2, List.getElem?_eq_getElem hlt, q2, q3, q5⟩
  have hall : (!seen.toArray.isEmpty && !arr.isEmpty && arr.all fun e => decide (e.born ≥ es.length)) = false := by
    cases hq : (!seen.toArray.isEmpty && !arr.isEmpty && arr.all fun e => decide (e.born ≥ es.length)) with
    | false => rfl
    | true =>
      exfalso
      simp only [Bool.and_eq_true, Array.all_eq_true, decide_eq_true_eq] at hq
      obtain ⟨⟨_, h2⟩, h3⟩ := hq
      have h0 : 0 < arr.size := by
        rcases Nat.eq_zero_or_pos arr.size with h | h
        · simp [Array.isEmpty, h] at h2
        · exact h
      have := h3 0 h0
      have hb := (hborn 0 arr[0] (Array.getElem?_eq_getElem h0)).1
      omega
  obtain ⟨cand, hcand⟩ : ∃ cand : Array (Option MapEntry), cand = ((if ((arr.filter fun e => !seen.toArray.contains e.born).filter fun e => decide (e.born < es.length)).isEmpty then #[none] else #[]) ++ (((arr.filter fun e => !seen.toArray.contains e.born).filter fun e => decide (e.born < es.length)) ++ ((arr.filter fun e => !seen.toArray.contains e.born).filter fun e => decide (e.born ≥ es.length))).map some) := ⟨_, rfl⟩
  have hpos : 0 < cand.size := by
    rw [hcand]
    by_cases hE : ((arr.filter fun e => !seen.toArray.contains e.born).filter fun e => decide (e.born < es.length)).isEmpty = true
    · rw [if_pos hE]; simp; omega
    · rw [if_neg hE]
      simp only [Array.isEmpty_iff_size_eq_zero] at hE
      simp only [Array.size_append, Array.size_map]
      omega
  obtain ⟨ch, k, hch, hrun⟩ := run_mapNext (P := P) (w := w) hpos
  have hx : cand[ch]? = some cand[ch] := Array.getElem?_eq_getElem hch
  have hmem : cand[ch] ∈ cand := Array.getElem_mem hch
  obtain ⟨d1, d2⟩ := hr.drawn k
  have hstart : ∀ (u : Value) (w2 : World), ((match cand[ch] with
      | some e => do
        setObj b (.mapIter (some bm) es.length (seen.toArray.push e.born) es.length)
        pure (.tuple #[.bool true, e.key, e.val])
      | none => pure (.tuple #[.bool false]) : Sem Value)).run P { w with drawn := k } = .ok u w2 → (Instr.next (.pointer (some ⟨b, 0, none⟩)) false t).run P w = .ok u w2 := by
    intro u w2 h2
    simp only [Instr.next, Sem.run_bind, run_getObj_it g2, Result.andThen_ok, MapKept.run_getObj_map k1, hall, Bool.false_eq_true, if_false]
    rw [← hcand, hrun]
    simp only [Result.andThen_ok, hx]
    cases hcc : cand[ch] with
    | none => rw [hcc] at h2; exact h2
    | some e => rw [hcc] at h2; simpa using h2
  cases hcc : cand[ch] with
  | none =>
    refine .inl ⟨{ w with drawn := k }, hstart _ _ (by rw [hcc]; rfl), d1, d2, fun j hj => ?_⟩
    rw [hcc, hcand] at hmem
    by_cases hE : ((arr.filter fun e => !seen.toArray.contains e.born).filter fun e => decide (e.born < es.length)).isEmpty = true
    · have hja : j < arr.size := by omega
      have hb := (hborn j arr[j] (Array.getElem?_eq_getElem hja)).1
      apply Classical.byContradiction
      intro hns
      have : arr[j] ∈ (arr.filter fun e => !seen.toArray.contains e.born).filter fun e => decide (e.born < es.length) := by
        rw [Array.mem_filter, Array.mem_filter]
        refine ⟨⟨Array.getElem_mem hja, ?_⟩, ?_⟩
        · rw [hb]; simpa using hns
        · rw [hb]; simpa using hj
      rw [Array.isEmpty_iff] at hE
      rw [hE] at this
      simp at this
    · rw [if_neg hE] at hmem
      simp at hmem
  | some e =>
    rw [hcc, hcand] at hmem
    have he : e ∈ arr ∧ e.born ∉ seen := by
      have : some e ∈ (((arr.filter fun e => !seen.toArray.contains e.born).filter fun e => decide (e.born < es.length)) ++ ((arr.filter fun e => !seen.toArray.contains e.born).filter fun e => decide (e.born ≥ es.length))).map some := by
        rcases Array.mem_append.1 hmem with h | h
        · split at h <;> simp at h
        · exact h
      rw [Array.mem_map] at this
      obtain ⟨e', h1, h2⟩ := this
      cases h2
      rcases Array.mem_append.1 h1 with h | h <;> rw [Array.mem_filter, Array.mem_filter] at h <;> exact ⟨h.1.1, by simpa using h.1.2⟩
    obtain ⟨j, hj, rfl⟩ := Array.getElem_of_mem he.1
    obtain ⟨hb, kk, d, q1, q2, q3, q4⟩ := hborn j arr[j] (Array.getElem?_eq_getElem hj)
    have hlt : b < w.heap.size := (Array.getElem?_eq_some_iff.1 g2).1
    obtain ⟨y1, y2⟩ := d1.write (w' := { w with drawn := k, heap := w.heap.setIfInBounds b (.mapIter (some bm) es.length (seen ++ [j]).toArray es.length) }) hμ (.mit (some m) es.length (seen ++ [j]) es.length) rfl rfl rfl (by simp) (fun n hn => by simp [Array.getElem?_setIfInBounds_ne (Ne.symm hn)])
      ⟨some bm, by simp [hlt], g3⟩
    refine .inr ⟨j, kk, d, .tuple #[.bool true, arr[j].key, arr[j].val], _, q1, by rw [← hb]; exact he.2, hstart _ _ ?_, ?_, y1, d2.trans y2⟩
    · rw [hcc]
      have g2' : ({ w with drawn := k } : World).heap[b]? = some (.mapIter (some bm) es.length seen.toArray es.length) := g2
      simp only [Sem.run_bind, run_setObj_it _ g2', Result.andThen_ok, Sem.run_pure, hb]
      simp
    · refine .tup _ _ rfl (fun i x hi => ?_)
      match i, hi with
      | 0, hi => simp at hi; subst hi; exact .lit _ trivial
      | 1, hi => simp at hi; subst hi; show R M (dV kk) arr[j].key; rw [q2]; exact dV_R q4
      | 2, hi => simp at hi; subst hi; exact q3
      | i + 3, hi => simp at hi

section
variable {P : Program} {rl : Option Nat} {I : Gh} {s : S} {o : Oper}
theorem opS_next {K : S → Prop} {Kp : D → S → Prop} {x : Operand} {i m : Nat} {es : List (Value × D)} {seen : List Nat} (hop : o.op = .next x false) (hso : strictO s.val [x]) (hx : s.uv x = .pt i 0) (hi : lk s.hp i = some (.mit (some m) es.length seen es.length)) (hm : lk s.hp m = some (.map es)) (hro : s.room o.dst)
    (h1 : (∀ j, j < es.length → j ∈ seen) → K (s.put o.dst (.tup [.lit (.bool false)])))
    (h2 : ∀ j k d, es[j]? = some (k, d) → j ∉ seen → K ({ s with hp := up s.hp i (.mit (some m) es.length (seen ++ [j]) es.length) }.put o.dst (.tup [.lit (.bool true), dV k, d]))) : OpS P rl I true o s K Kp := by
  intro r M w a zs next Q hrl hr hgh hn _
  refine ⟨fun _ => ?_, fun he => by cases he⟩
  have hv := hr.uv (xs := #[x]) hso x (by simp)
  rw [hx] at hv
  rcases next_run (P := P) hr.h (by simpa [S.H, get_toT] using hi) (by simpa [S.H, get_toT] using hm) hv o.type with ⟨w', g1, g2, g3, g4⟩ | ⟨j, k, d, u, w', g1, g2, g3, g4, g5, g6⟩
  · refine did_next (d := .tup [.lit (.bool false)]) (h' := s.H) (by rw [hop]; simp) ⟨_, w', M, .inl (by simp only [execOp, hop, Sem.run_bind, g1, Result.andThen_ok, Sem.run_pure]), g2, tupF, g3⟩ next Q fun M' w' v k1 k2 k3 => ?_
    exact hn M' _ w' _ ((hr.mono k3.le (hp := s.hp) (nx := s.nx) k1).put k2 hro) (by rw [S.put_g]; exact hgh.mono k3.w) (hrl.mono k3.le) (h1 g4)
  · refine did_next (d := .tup [.lit (.bool true), dV k, d]) (h' := { hp := toT (up s.hp i (.mit (some m) es.length (seen ++ [j]) es.length)), nx := s.nx }) (by rw [hop]; simp) ⟨u, w', M, .inl (by simp only [execOp, hop, Sem.run_bind, g3, Result.andThen_ok, Sem.run_pure]), g5.same (fun l => toT_up l) rfl, g4, g6⟩ next Q fun M' w' v k1 k2 k3 => ?_
    exact hn M' _ w' _ ((hr.mono k3.le k1).put k2 hro) (by rw [S.put_g]; exact hgh.mono k3.w) (hrl.mono k3.le) (h2 j k d g1 g2)

theorem opS_entry {K : S → Prop} {Kp : D → S → Prop} {x : Operand} {i m j : Nat} {es : List (Value × D)} {seen : List Nat} {k : Value} {d : D} (hop : o.op = .entry x) (hso : strictO s.val [x]) (hx : s.uv x = .pt i 0) (hi : lk s.hp i = some (.mit (some m) es.length (seen ++ [j]) es.length)) (hm : lk s.hp m = some (.map es)) (hj : es[j]? = some (k, d)) (hro : s.room o.dst)
    (h : K (s.put o.dst (.tup [dV k, d]))) : OpS P rl I true o s K Kp := by
  refine opS_bop (hp' := s.hp) (nx' := s.nx) (by rw [hop]; simp) (fun M w hr ρ hf o' ho' => ?_) (by rw [hop]; exact hso) hro h
  have hv := hf x (by rw [hop]; simp [Op.operands])
  rw [hx] at hv
  generalize hq : ρ x = v at hv
  cases hv with
  | pt _ _ b ha =>
  obtain ⟨c, _, ob, g2, g3⟩ := hr.look (by rw [get_toT]; exact hi) ha
  cases ob with
  | none => exact g3.elim
  | some bm =>
  obtain ⟨c', _, arr, k1, k2, k3⟩ := hr.look (by rw [get_toT]; exact hm) g3
  obtain ⟨e, q1, q2, q3, q4, q5⟩ := k3 j _ hj
  have hfind : arr.find? (fun e => e.born == j) = some e := by
    rw [← Array.find?_toList, List.find?_eq_some_iff_getElem]
    obtain ⟨hlt, he⟩ := Array.getElem?_eq_some_iff.1 q1
    refine ⟨by simp [q4], j, by simpa using hlt, by simpa using he, fun n hn => ?_⟩
    have hn2 : n < es.length := by omega
    obtain ⟨e', r1, _, _, r4, _⟩ := k3 n _ (List.getElem?_eq_getElem hn2)
    obtain ⟨_, he'⟩ := Array.getElem?_eq_some_iff.1 r1
    simp only [Array.getElem_toList, he', r4]
    simp; omega
  have hback : (seen ++ [j]).toArray.back? = some j := by simp [Array.back?]
  refine did_val hr (.tuple #[e.key, e.val]) ?_ ?_
  · have hop' : o'.op = .entry x := ho'.trans hop
    have hent : (Instr.entry (.pointer (some ⟨b, 0, none⟩))).run P w = .ok (.tuple #[e.key, e.val]) w := by
      simp [Instr.entry, run_getObj_it g2, MapKept.run_getObj_map k1, Result.andThen, hback, hfind]
    simp only [execOp, hop', hq, Sem.run_bind, hent, Result.andThen_ok, Sem.run_pure]
  · refine .tup _ _ rfl (fun i x hi => ?_)
    match i, hi with
    | 0, hi => simp at hi; subst hi; show R M (dV k) e.key; rw [show e.key = k from q2]; exact dV_R q5
    | 1, hi => simp at hi; subst hi; exact q3
    | i + 2, hi => simp at hi
end
end Go.Ev

/-
  Regions that draw the order of all but what stands last.
-/
namespace Go.Ev
open Go.Aw (WF enters tiOf)

theorem w_drawOk {md : Bool} {P : Program} {rl : Option Nat} {I : Gh} {tb : Tb} (ht : TbOk P tb) {Q : X → S → Prop} {s : S} {id : Nat} {l : List Oper} (b : Nat) (hm : P.follows .mixedOrders = true) (ho : orderOk (l.take b) = true) (hB : barOk b l = true)
    (h : drawW md P rl tb true [] (l.take b) s (fun s1 => SeqOk P rl I l b Q s1)) : W P rl I (.region id l.toArray true) Q s := by
  obtain ⟨zs', hbar⟩ := bar_ok hB
  obtain ⟨st, val, h1, h2, h3⟩ := drawW_chain ht (ops := l.take b) (l.take b) [] [] [] s (by simp) rfl (by rw [List.append_nil]; exact h)
  simp only [List.length_nil, Nat.zero_add] at h1 h2 h3
  unfold drawW at h2
  have h3 : ∀ (i : Nat) (o : Oper), (l.take b)[i]? = some o → StepOK P rl (l.take b) o (st i) (val i) (st (i + 1)) := fun i o hi => h3 i o (Nat.zero_le _) (List.getElem?_eq_some_iff.1 hi).1 hi
  intro r M w a zs hrl hr hgh
  obtain ⟨ord, hg⟩ := ord_ok ho
  refine wpIn_region_any hm ?_
  obtain ⟨d1, d2⟩ := hr.h.drawn (w.drawn + 1)
  have hble := hbar.le
  have hlen : (l.take b).length = b := by simp; omega
  have hf : ∀ (n j : Nat), (Array.replicate n false).getD j false = false := fun n j => by
    simp only [Array.getD_eq_getD_getElem?, Array.getElem?_replicate]
    split <;> rfl
  have hgl : (st (l.take b).length).g = s.g := by rw [(st_n h3 (l.take b).length (Nat.le_refl _)).2.2.1, h1]
  have hdrawn := drawn_any (r := r) (zs := zs) (tl := false) (sB := s) hg h3 (fun q => by cases q) (Q := xq (fun a' w' => wpOpsIn (WF r) 0 P l.toArray (EndsS rl r I zs Q) (List.range' b (l.length - b)) a' w') (EndsS rl r I zs Q)) (M0 := M) (w0 := w)
    (fun M' w' a' g1 g2 g3 => h2 r M' w' a' zs g3 g1 (by rw [hgl]; exact hgh.mono g2))
    b (Array.replicate b false) M { w with drawn := w.drawn + 1 } a
    ⟨by rw [hlen]; simp, fun i _ hl => (by rw [hf] at hl; cases hl), .inl ⟨0, Nat.zero_le _, by rw [h1]; exact d1, fun j o _ _ => by rw [hf]; simp⟩, fun j o t _ _ hl => (by rw [hf] at hl; cases hl), fun t _ x hx => hr.t t x (by rw [← h1]; exact hx), by rw [h1]; exact hr.sz, by rw [h1]; exact hr.df, by rw [h1]; exact hr.ex⟩
    d2.w (hrl.mono d2.le) (Nat.le_trans List.countP_le_length (by rw [List.length_range, hlen]; exact Nat.le_refl _))
  have hcount : (List.range b).countP (fun k => !(Array.replicate b false).getD k true) = b := by
    have : (List.range b).countP (fun k => !(Array.replicate b false).getD k true) = (List.range b).length := by
      rw [List.countP_eq_length]
      intro k hk
      have := List.mem_range.1 hk
      simp [Array.getD, this]
    rw [this, List.length_range]
  have := any_pre (P := P) hbar (F := WF r) (n := 0) (Q := EndsS rl r I zs Q) (N := fun a' w' => wpOpsIn (WF r) 0 P l.toArray (EndsS rl r I zs Q) (List.range' b (l.length - b)) a' w') (fun _ _ h => h) b (Array.replicate b false) (Array.replicate l.length false) a { w with drawn := w.drawn + 1 } (by simp) (by simp) (fun j _ => by rw [hf, hf]) (fun j _ _ => hf _ _) (fun i _ hl => by rw [hf] at hl; cases hl) hcount hdrawn
  rw [show b + (l.length - b) = l.length by omega] at this
  rw [List.size_toArray]
  exact this
end Go.Ev

/-
  A library's sort of texts, called with an own slice.
-/
namespace Go.Ev
open Go.Aw (WF enters)
open Go.Shelf Go.Sort
open Go.Proofs (encStr)

def sortS (xs : List ByteArray) : List ByteArray := ((xs.map (·.data.toList)).mergeSort fun x y => decide (x ≤ y)).map fun l => ⟨l.toArray⟩

theorem sortS_length (xs : List ByteArray) : (sortS xs).length = xs.length := by simp [sortS]

theorem sortD (xs : List ByteArray) : (((xs.map (·.data.toList)).mergeSort fun x y => decide (x ≤ y)).map fun l => D.lit (encStr l)) = (sortS xs).map fun b => D.lit (.string b) := by
  simp [sortS]

theorem putRow_get {w : World} {b off : Nat} {d : Array (List UInt8)} {k : Nat} (hk : k ≠ b) : (putRow encStr w b off d).heap[k]? = w.heap[k]? := by
  simp only [putRow, mapBlock, Array.getElem?_modify, if_neg (Ne.symm hk)]

/-- The sort, at the memory that is known. -/
theorem sort_post {P : Program} {M : Mem} {h : H} {w : World} (hr : RH M h w) {l : Nat} {ty : TypeId} {xs : List ByteArray} (hl : h.hp.get l = some (.cells ty (some 1) (xs.map fun b => .lit (.string b)))) {v : Value} (hv : M.own l xs.length v) (hlen : xs.length ≤ 1000000000) (hpos : 0 < xs.length)
    {g : FuncId} (hS : ∀ (blk off cap : Nat) (zs : List (List UInt8)) (w : World), Holds encStr w blk off zs.toArray → blk < w.heap.size → zs.length < 4611686018427387904 → Calls P g #[.slice (some ⟨blk, off, none⟩) zs.length cap] w fun e w' => e = .returned (.tuple #[]) ∧ ∃ n os, w' = grow (putRow encStr (Sort.ahead w n) blk off (zs.mergeSort fun x y => decide (x ≤ y)).toArray) os) :
    Calls P g #[v] w fun e w' => e = .returned (.tuple #[]) ∧ RH M { h with hp := h.hp.set l (.cells ty (some 1) ((sortS xs).map fun b => .lit (.string b))) } w' ∧ Ext M w M w' := by
  obtain ⟨a, k, rfl, q2, q3, q4, q5, q6⟩ := hv.val
  obtain ⟨b, rfl⟩ := q4 (by omega)
  have ha : M.at l b := ⟨hv.lt, fun b' c' e => by
    have := (q5 b' c' e).1
    injection this with this
    injection this with this
    exact this.symm, fun e => by have := (q6 e).1; omega, hv.nres⟩
  obtain ⟨c, hμ, cur, g1, ⟨g2, g3, g4⟩, g5⟩ := hr.look hl ha
  have hb : b < w.heap.size := (Array.getElem?_eq_some_iff.1 g1).1
  have hlc : xs.length ≤ cur.size := by simpa using g2
  have hc : ∀ (j : Nat) x, xs[j]? = some x → cur[j]? = some (.string x) := fun j x hj => by
    have hjl : j < cur.size := Nat.lt_of_lt_of_le (List.getElem?_eq_some_iff.1 hj).1 hlc
    have := (g5 j (.lit (.string x)) (by simp [hj])).2.litE
    rw [Array.getElem?_eq_getElem hjl]
    simp only [Array.getD, hjl, dif_pos] at this
    exact congrArg some this
  have hH : Holds encStr w b 0 (xs.map (·.data.toList)).toArray := fun j hj => by
    have hj' : j < xs.length := by simpa using hj
    have hg : (xs.map (·.data.toList)).toArray[j]! = xs[j].data.toList := by
      rw [getElem!_pos _ j hj]
      simp
    refine ⟨?_, by simp [World.frozen?, g1]⟩
    simp only [World.cell?, g1, Nat.zero_add, hg]
    rw [hc j _ (List.getElem?_eq_getElem hj')]
    simp [encStr]
  have hz := hS b 0 k (xs.map (·.data.toList)) w hH hb (by simp; omega)
  rw [List.length_map] at hz
  refine hz.mono ?_
  rintro e w' ⟨rfl, n, os, rfl⟩
  refine ⟨rfl, ?_⟩
  obtain ⟨srt, hsrt⟩ : ∃ srt, srt = (xs.map (·.data.toList)).mergeSort (fun x y => decide (x ≤ y)) := ⟨_, rfl⟩
  have hsl : srt.length = xs.length := by rw [hsrt]; simp
  have hsz : (putRow encStr (Sort.ahead w n) b 0 srt.toArray).heap.size = w.heap.size := by simp [putRow, mapBlock, Sort.ahead]
  rw [← hsrt]
  obtain ⟨d1, d2⟩ := hr.drawn (w.drawn + n)
  have hRB : RB M (putRow encStr (Sort.ahead w n) b 0 srt.toArray) (.cells ty (some 1) ((sortS xs).map fun b => .lit (.string b))) b c := by
    refine ⟨putCells encStr 0 srt.toArray cur, ?_, ?_, ?_⟩
    · simp only [putRow, mapBlock, Array.getElem?_modify, if_true, Sort.ahead, g1, Option.map_some, onCells]
    · simp only [putCells, Array.size_mapIdx, List.length_map, sortS_length]
      exact ⟨hlc, g3, g4⟩
    · intro i d hi
      rw [← sortD, ← hsrt, List.getElem?_map] at hi
      simp only [Option.map_eq_some_iff] at hi
      obtain ⟨z, hz1, rfl⟩ := hi
      have hil : i < srt.length := (List.getElem?_eq_some_iff.1 hz1).1
      have hic : i < cur.size := by omega
      have : (putCells encStr 0 srt.toArray cur).getD i undef = encStr z := by
        simp only [putCells, Array.getD_eq_getD_getElem?, Array.getElem?_mapIdx, Array.getElem?_eq_getElem hic, Option.map_some, Option.getD_some]
        rw [if_pos ⟨Nat.zero_le _, by simpa using hil⟩]
        congr 1
        rw [Nat.sub_zero, getElem!_pos _ i (by simpa using hil)]
        simpa using (List.getElem?_eq_some_iff.1 hz1).2
      rw [this]
      refine ⟨rfl, .lit _ ?_⟩
      -- the text is one of those that were there
      have hm : z ∈ xs.map (·.data.toList) := by
        have : z ∈ srt := List.mem_of_getElem? hz1
        rw [hsrt, List.mem_mergeSort] at this
        exact this
      rw [List.mem_map] at hm
      obtain ⟨x, hx, rfl⟩ := hm
      obtain ⟨j, hj, rfl⟩ := List.mem_iff_getElem.1 hx
      have := (g5 j (.lit (.string xs[j])) (by simp [hj])).2
      generalize hq : cur.getD j undef = q at this
      cases this with
      | lit _ ho => exact ho
  obtain ⟨y1, y2⟩ := d1.write (w' := putRow encStr (Sort.ahead w n) b 0 srt.toArray) hμ (.cells ty (some 1) ((sortS xs).map fun b => .lit (.string b))) rfl rfl rfl hsz (fun m hm => putRow_get hm) hRB
  have hg : ∀ m, m < w.heap.size → (grow (putRow encStr (Sort.ahead w n) b 0 srt.toArray) os).heap[m]? = (putRow encStr (Sort.ahead w n) b 0 srt.toArray).heap[m]? := fun m hm => by
    simp only [grow, Array.getElem?_append]
    rw [if_pos (by rw [hsz]; exact hm)]
  have hlt : ∀ l b c, M.μ l = .blk b c → b < w.heap.size := fun l b c e => hr.inv.lt l b c e
  have hfl : ∀ b c, M.fz b = some c → b < w.heap.size := fun b c e => by
    obtain ⟨ty, fr, h1⟩ := hr.inv.fz b c e
    exact (Array.getElem?_eq_some_iff.1 h1).1
  refine ⟨⟨⟨y1.inv.inj, fun l b c e => ?_, y1.inv.nx, fun b c e => ?_, y1.inv.sep⟩, fun l' k' e => ?_, y1.nx⟩, (d2.trans y2).trans ⟨rfl, rfl, rfl, by simp [grow], fun m hm _ => hg m (by rw [← hsz]; exact hm), fun l b c e => .inl ⟨l, c, e⟩, Nat.le_refl _, fun _ _ => .inl rfl, fun _ _ h => h, fun _ _ h => .inl h, fun _ _ h => h⟩⟩
  · have := y1.inv.lt l b c e
    simp only [grow, Array.size_append]; omega
  · obtain ⟨ty, fr, h1⟩ := y1.inv.fz b c e
    exact ⟨ty, fr, (hg b (hfl b c e)).trans h1⟩
  · exact (y1.hp l' k' e).mono (.refl M) fun b c e => hg b (hlt _ b c e)

/-- What is asked of the library's sort. -/
def SortOk (P : Program) (g : FuncId) : Prop := enters P g = true ∧ ∀ (blk off cap : Nat) (zs : List (List UInt8)) (w : World), Holds encStr w blk off zs.toArray → blk < w.heap.size → zs.length < 4611686018427387904 → Calls P g #[.slice (some ⟨blk, off, none⟩) zs.length cap] w fun e w' => e = .returned (.tuple #[]) ∧ ∃ n os, w' = grow (putRow encStr (Sort.ahead w n) blk off (zs.mergeSort fun x y => decide (x ≤ y)).toArray) os

/-- The sort is called with an own slice. -/
theorem callS_sort {P : Program} {I : Gh} {gg : FuncId} (hS : SortOk P gg) {l n : Nat} {ty : TypeId} {xs : List ByteArray} {so : Prop} {g : Option (Nat × Bool)} {dst : Option Tmp} {s : S} {K : S → Prop} {Kp : D → S → Prop} (hl : lk s.hp l = some (.cells ty (some 1) (xs.map fun b => .lit (.string b)))) (hn : xs.length = n) (hlen : xs.length ≤ 1000000000) (hpos : 0 < xs.length) (hso : so)
    (hro : s.room dst) (hK : K ({ s with hp := up s.hp l (.cells ty (some 1) ((sortS xs).map fun b => .lit (.string b))) }.put dst (.tup []))) : CallS P none I true (.fn (.func gg) [] []) [.ow l n] so g dst s K Kp := by
  refine .inr ⟨fun _ => ⟨hso, ?_⟩, fun h => by cases h⟩
  intro r M w a zs hrl hr hg vs hvs
  obtain ⟨v0, us, rfl, h0, h1⟩ := argsOk_cons hvs
  have : us = #[] := Array.eq_empty_of_size_eq_zero (by simpa using h1.1)
  subst this
  subst hn
  have hv : M.own l xs.length v0 := by
    generalize hq : xs.length = q at h0
    cases h0 with
    | ow _ _ _ h => exact h
  refine .inl ⟨hS.1, (sort_post hr.h (by show (toT s.hp).get l = _; rw [get_toT]; exact hl) hv hlen hpos hS.2).mono ?_⟩
  rintro e w' ⟨rfl, g1, g2⟩
  refine ⟨M, { s with hp := up s.hp l (.cells ty (some 1) ((sortS xs).map fun b => .lit (.string b))) }, .ret (.tup []), hr.mono g2.le (hp := up s.hp l (.cells ty (some 1) ((sortS xs).map fun b => .lit (.string b)))) (nx := s.nx) (g1.same (fun m => toT_up m) rfl), hg.mono g2.w, hrl.mono g2.le, ⟨_, rfl, .tup _ _ rfl (fun i d hi => by simp at hi)⟩, ?_⟩
  cases dst with
  | none => exact ⟨hro, hK⟩
  | some t => exact ⟨hro, hK⟩

/-! ### An own slice does not change any more -/
theorem frzO_ok {rl r : Option Nat} {s : S} {t l n sz : Nat} {ty : TypeId} {rows : List (List D)} (ht : lk s.tm t = some (.ow l n)) (hl : lk s.hp l = some (.cells ty (some sz) rows.flatten)) (hn : rows.length = n) (hz : ∀ r, r ∈ rows → r.length = sz) (tm' : List (Nat × D)) (htm : ∀ u d, lk tm' u = some d → lk s.tm u = some d ∨ (lk s.tm u = some (.ow l n) ∧ d = .sq false sz rows))
    {M : Mem} {w : World} {a : Act} {zs : Nat → Value} (hrl : RelR M rl r) (hr : SRep zs M s w a) :
    ∃ M', SRep zs M' { s with tm := tm', hp := ldel s.hp l } w a ∧ ExtW M w M' w ∧ RelR M' rl r := by
  have own : ∀ u, lk s.tm u = some (.ow l n) → M.own l n (a.tmps.getD u undef) := fun u hu => by
    have := hr.t u _ hu
    generalize a.tmps.getD u undef = v at this
    cases this with
    | ow _ _ _ h => exact h
  have hb := hr.h.hp l (.cells ty (some sz) rows.flatten) (by show (toT s.hp).get l = _; rw [get_toT]; exact hl)
  have fin : ∀ (M' : Mem), M.le M' → M'.nx = M.nx → (∀ m b k, M'.μ m = .blk b k → m ≠ l ∧ M.μ m = .blk b k) → (∀ m, m ≠ l → M'.μ m = M.μ m) → Inv M' w → (∀ b q, M'.fz b = some q → M.fz b = some q ∨ (∃ l' c', M.μ l' = .blk b c')) → (∀ u, lk s.tm u = some (.ow l n) → R M' (.sq false sz rows) (a.tmps.getD u undef)) →
      ∃ M', SRep zs M' { s with tm := tm', hp := ldel s.hp l } w a ∧ ExtW M w M' w ∧ RelR M' rl r := by
    intro M' hle hnx hold hsame hinv hfz hR
    refine ⟨M', ⟨⟨hinv, fun m k e => ?_, ?_⟩, hr.sz, fun u d e => ?_, ?_, fun i d e => (hr.ex i d e).mono hle⟩, ⟨rfl, rfl, rfl, Nat.le_refl _, fun _ _ _ => rfl, fun m b k e => .inl ⟨m, k, (hold _ _ _ e).2⟩, hle.fz, fun b q e => (hfz b q e).imp id .inl⟩, hrl.mono hle⟩
    · have e : lk (ldel s.hp l) m = some k := by rw [← get_toT]; exact e
      rw [lk_ldel] at e
      by_cases hm : l = m
      · rw [if_pos hm] at e; cases e
      rw [if_neg hm] at e
      have hk := hr.h.hp m k (by show (toT s.hp).get m = _; rw [get_toT]; exact e)
      rw [hsame m (fun q => hm q.symm)]
      exact hk.mono hle (fun _ _ _ => rfl)
    · show s.nx = M'.nx
      rw [hnx]; exact hr.h.nx
    · rcases htm u d e with h | ⟨h, rfl⟩
      · exact (hr.t u d h).mono hle
      · exact hR u h
    · obtain ⟨bs, h1, h2, h3⟩ := hr.df
      exact ⟨bs, h1, h2, fun i m e => let ⟨b, q1, q2⟩ := h3 i m e; ⟨b, q1, q2.mono hle⟩⟩
  have h0 := own t ht
  cases hp : M.μ l with
  | dead => rw [hp] at hb; exact hb.elim
  | res => exact absurd hp h0.nres
  | nil =>
    have hn0 : n = 0 := by
      obtain ⟨a0, k, _, _, _, _, _, q⟩ := h0.val
      exact (q hp).1
    have hrow : rows = [] := List.eq_nil_of_length_eq_zero (hn.trans hn0)
    refine fin { M with μ := fun k => if k = l then .dead else M.μ k } ⟨Nat.le_refl _, fun m _ => ?_, fun _ _ h => h⟩ rfl (fun m b k e => ?_) (fun m hm => if_neg hm) ⟨fun m m' b k k' e e' => ?_, fun m b k e => ?_, fun m b k e => ?_, hr.h.inv.fz, fun b q e m k e' => ?_⟩ (fun b q e => .inl e) (fun u hu => ?_)
    · by_cases hm : m = l
      · exact .inr (.inl (if_pos hm))
      · exact .inl (if_neg hm)
    · by_cases hm : m = l
      · simp [hm] at e
      · simp only [if_neg hm] at e; exact ⟨hm, e⟩
    · by_cases hm : m = l
      · simp [hm] at e
      · by_cases hm' : m' = l
        · simp [hm'] at e'
        · simp only [if_neg hm] at e; simp only [if_neg hm'] at e'; exact hr.h.inv.inj m m' b k k' e e'
    · by_cases hm : m = l
      · simp [hm] at e
      · simp only [if_neg hm] at e; exact hr.h.inv.lt m b k e
    · by_cases hm : m = l
      · simp [hm] at e
      · simp only [if_neg hm] at e; exact hr.h.inv.nx m b k e
    · by_cases hm : m = l
      · simp [hm] at e'
      · simp only [if_neg hm] at e'; exact hr.h.inv.sep b q e m k e'
    · obtain ⟨a0, k, h1, _, _, _, _, q⟩ := (own u hu).val
      rw [h1, hrow, (q hp).1, (q hp).2]
      exact .sqn _ _ _
  | blk b0 c =>
    rw [hp] at hb
    obtain ⟨cur, hc1, ⟨hc2, hc3, hc4⟩, hc5⟩ := hb
    have hfz : ∀ b q, M.fz b = some q → (if b = b0 then some cur else M.fz b) = some q := fun b q e => by
      rw [if_neg (fun h => hr.h.inv.sep b q e l c (by rw [h]; exact hp))]
      exact e
    refine fin { μ := fun k => if k = l then .dead else M.μ k, nx := M.nx, fz := fun x => if x = b0 then some cur else M.fz x } ⟨Nat.le_refl _, fun m _ => ?_, hfz⟩ rfl (fun m b k e => ?_) (fun m hm => if_neg hm) ⟨fun m m' b k k' e e' => ?_, fun m b k e => ?_, fun m b k e => ?_, fun b q e => ?_, fun b q e m k e' => ?_⟩ (fun b q e => ?_) (fun u hu => ?_)
    · by_cases hm : m = l
      · exact .inr (.inl (if_pos hm))
      · exact .inl (if_neg hm)
    · by_cases hm : m = l
      · simp [hm] at e
      · simp only [if_neg hm] at e; exact ⟨hm, e⟩
    · by_cases hm : m = l
      · simp [hm] at e
      · by_cases hm' : m' = l
        · simp [hm'] at e'
        · simp only [if_neg hm] at e; simp only [if_neg hm'] at e'; exact hr.h.inv.inj m m' b k k' e e'
    · by_cases hm : m = l
      · simp [hm] at e
      · simp only [if_neg hm] at e; exact hr.h.inv.lt m b k e
    · by_cases hm : m = l
      · simp [hm] at e
      · simp only [if_neg hm] at e; exact hr.h.inv.nx m b k e
    · by_cases hb : b = b0
      · subst hb
        simp at e
        subst e
        exact ⟨_, _, hc1⟩
      · simp only [if_neg hb] at e
        exact hr.h.inv.fz b q e
    · by_cases hm : m = l
      · simp [hm] at e'
      · simp only [if_neg hm] at e'
        by_cases hb : b = b0
        · subst hb
          exact hm (hr.h.inv.inj _ _ _ _ _ e' hp)
        · simp only [if_neg hb] at e
          exact hr.h.inv.sep b q e m k e'
    · by_cases hb : b = b0
      · subst hb; exact .inr ⟨l, c, hp⟩
      · simp only [if_neg hb] at e; exact .inl e
    · obtain ⟨a0, k, h1, h2, h3, _, q, _⟩ := (own u hu).val
      obtain ⟨rfl, rfl⟩ := q b0 c hp
      rw [h1, ← hn]
      have hmono : ∀ {d v}, R M d v → R { μ := fun k => if k = l then .dead else M.μ k, nx := M.nx, fz := fun x => if x = b0 then some cur else M.fz x } d v := by
        have hle : M.le { μ := fun k => if k = l then .dead else M.μ k, nx := M.nx, fz := fun x => if x = b0 then some cur else M.fz x } := ⟨Nat.le_refl _, fun m _ => by
          by_cases hm : m = l
          · exact .inr (.inl (if_pos hm))
          · exact .inl (if_neg hm), hfz⟩
        intro d v h; exact R.mono hle h
      have hcell : ∀ (i : Nat) r (j : Nat) x, rows[i]? = some r → r[j]? = some x → rows.flatten[i * sz + j]? = some x := fun i r j x h4 h5 => flat_at rows hz i j r x h4 h5
      refine .sq false sz rows b0 0 k cur (fun i j => cur.getD (i * sz + j) undef) (if_pos rfl) (by omega) h3 (fun e => by cases e) hz (fun i r j x h4 h5 => ?_) (fun i r j x h4 h5 => hmono (hc5 _ _ (hcell i r j x h4 h5)).2)
      have hlt : i * sz + j < cur.size := by
        have := (List.getElem?_eq_some_iff.1 (hcell i r j x h4 h5)).1
        omega
      exact ⟨by rw [Nat.zero_add]; simp [Array.getD, hlt], (hc5 _ _ (hcell i r j x h4 h5)).1⟩

/-- From here on an own slice does not change any more: slots are told anew. -/
theorem w_frzO {P : Program} {rl : Option Nat} {I : Gh} {Q : X → S → Prop} {s : S} {c : Code} (t l : Nat) {n sz : Nat} {ty : TypeId} (rows : List (List D)) (tm' : List (Nat × D)) (ht : lk s.tm t = some (.ow l n)) (hl : lk s.hp l = some (.cells ty (some sz) rows.flatten)) (hn : rows.length = n) (hz : ∀ r, r ∈ rows → r.length = sz)
    (htm : ∀ p ∈ tm', lk s.tm p.1 = some p.2 ∨ (lk s.tm p.1 = some (.ow l n) ∧ p.2 = .sq false sz rows)) (h : W P rl I c Q { s with tm := tm', hp := ldel s.hp l }) : W P rl I c Q s := by
  intro r M w a zs hrl hr hg
  obtain ⟨M', h1, h2, h3⟩ := frzO_ok ht hl hn hz tm' (fun u d e => htm (u, d) (lk_in _ _ _ e)) hrl hr
  exact h r M' w a zs h3 h1 (hg.mono h2)
end Go.Ev
