/-
  As SyMf, with guards that are known to be so.
-/
import Derived.Test.YthlebppdhipanaaSymb
import Derived.Test.YthlebppdhipanaaEvc
set_option linter.all false
namespace Go.Ev.Bg
open Go.Ev
open Go.Aw (WF enters tiOf)

theorem stepB_build {P : Program} {rl : Option Nat} {ops : List Oper} {o : Oper} {s : S} {K : D → Prop} (hw : ∀ (M : Mem) (a : Act), (∀ t ∈ looks o (fun j => (ops[j]?).bind (·.dst)), ∀ x, lk s.tm t = some x → R M x (a.tmps.getD t undef)) → Region.wanted o (yielded ops.toArray a.tmps) = true) (h : bsK P o s K) : ∃ d, Bq.StepOK P rl ops o s d (s.put o.dst d) ∧ K d := by
  unfold bsK at h
  split at h
  case h_2 => exact h.elim
  rename_i t n ps hop
  split at h
  case h_2 => exact h.elim
  rename_i ti hti
  split at h
  case h_2 => exact h.elim
  rename_i out hout
  obtain ⟨h1, h2, h3, h4, h5, h6, h7⟩ := h
  refine ⟨_, ⟨by cases o.dst <;> rfl, by cases o.dst <;> rfl, by cases o.dst <;> rfl, by cases o.dst <;> rfl, h6, rfl, fun _ => by cases o.dst <;> rfl, fun e => by rw [hop] at e; simp [Bq.isAl] at e, fun r M w a hh hrl hr hh2 hh3 hsz hf next Q hn => ?_⟩, h7⟩
  have hw := hw M a hf
  rw [if_pos hw]
  rw [show Bq.isBig o.op = false by rw [hop]; rfl] at hn
  have hel : ∃ tsize tbytes e tz, tiOf P t = some { size := tsize, bytes := tbytes, k := .sl e, z := tz } ∧ tiOf P e = some ti := by
    unfold elemTI at hti
    split at hti
    · rename_i a1 a2 a3 a4 h8
      exact ⟨a1, a2, a3, a4, h8, hti⟩
    · cases hti
  obtain ⟨tsize, tbytes, e, tz, htt, hte⟩ := hel
  have hv : bigL P [] 0 s.uv o.op = some (.sl 0 0 n (some n), up [] 0 (.cells e none out), 1) := by
    rw [hop]
    simp only [bigL, htt, hte, hout]
  have hob : bigO P [] s.uv o.op := by
    rw [hop]
    simp only [bigO, hti]
    exact h2
  refine did_next (by rw [hop]; simp) (build_frz (o := o) (e := e) hop hv (by simp [up, lk]) hob h3 h4 (fun x hx => ?_) hr (uv_facts hf h1) rfl) next Q fun M' w' v g1 g2 g3 => hn M' w' v g1 g2 g3
  obtain ⟨i, hi⟩ := List.mem_iff_getElem?.1 (Array.mem_toList_iff.2 hx)
  exact belL_get 0 _ i _ h5 (by rw [List.getElem?_map, hi]; rfl)

theorem stepB_load {P : Program} {rl : Option Nat} {ops : List Oper} {o : Oper} {s : S} {K : D → Prop} (hw : ∀ (M : Mem) (a : Act), (∀ t ∈ looks o (fun j => (ops[j]?).bind (·.dst)), ∀ x, lk s.tm t = some x → R M x (a.tmps.getD t undef)) → Region.wanted o (yielded ops.toArray a.tmps) = true) (h : lsK P o s K) : ∃ d, Bq.StepOK P rl ops o s d (s.put o.dst d) ∧ K d := by
  unfold lsK at h
  split at h
  case h_2 => exact h.elim
  rename_i t x hop
  split at h
  case h_2 => exact h.elim
  rename_i ti q row k hti hx
  obtain ⟨h1, h2, h6, h7⟩ := h
  refine ⟨_, ⟨by cases o.dst <;> rfl, by cases o.dst <;> rfl, by cases o.dst <;> rfl, by cases o.dst <;> rfl, h6, rfl, fun _ => by cases o.dst <;> rfl, fun e => by rw [hop] at e; simp [Bq.isAl] at e, fun r M w a hh hrl hr hh2 hh3 hsz hf next Q hn => ?_⟩, h7⟩
  have hw := hw M a hf
  rw [if_pos hw]
  rw [show Bq.isBig o.op = false by rw [hop]; rfl] at hn
  have hv : valS P hh s.uv o.op = some (cellsAt ti row k) := by rw [hop]; simp only [valS, hti, hx, loadV]
  have ho : oblS P hh s.uv o.op := by rw [hop]; simp only [oblS, hti, hx, loadO]; exact h2
  exact did_next (by rw [hop]; simp) (quiet_ok hv ho M w hr a.eval (uv_facts hf h1) o rfl) next Q fun M' w' v g1 g2 g3 => hn M' w' v g1 g2 g3

theorem stepB_nil {P : Program} {rl : Option Nat} {ops : List Oper} {o : Oper} {s : S} {K : D → Prop} (hw : ∀ (M : Mem) (a : Act), (∀ t ∈ looks o (fun j => (ops[j]?).bind (·.dst)), ∀ x, lk s.tm t = some x → R M x (a.tmps.getD t undef)) → Region.wanted o (yielded ops.toArray a.tmps) = true) (h : naK P o s K) : ∃ d, Bq.StepOK P rl ops o s d (s.put o.dst d) ∧ K d := by
  unfold naK at h
  split at h
  case h_2 => exact h.elim
  rename_i c hop
  split at h
  case h_2 => exact h.elim
  rename_i hb
  split at h
  case h_2 => exact h.elim
  rename_i t tx x y e1 e2
  split at h
  case h_2 => exact h.elim
  rename_i ti sz hti hx
  obtain ⟨h1, h2, h3, h6, h7⟩ := h
  have hbig : Bq.isBig o.op = true := by rw [hop]; simp only [Bq.isBig, hb]
  refine ⟨_, ⟨by cases o.dst <;> rfl, by cases o.dst <;> rfl, by cases o.dst <;> rfl, by cases o.dst <;> rfl, h6, rfl, fun _ => by cases o.dst <;> rfl, fun e => by rw [hop] at e; simp [Bq.isAl] at e, fun r M w a hh hrl hr hh2 hh3 hsz hf next Q hn => ?_⟩, h7⟩
  have hw := hw M a hf
  rw [if_pos hw]
  rw [hbig] at hn
  have hhs := hh2 hbig
  subst hhs
  have a1 : c.argTypes = #[t, tx] := by rw [← Array.toArray_toList (xs := c.argTypes), e1]
  have a2 : c.args = #[x, y] := by rw [← Array.toArray_toList (xs := c.args), e2]
  have hu := uv_facts hf h3
  have hvx := hu x (by rw [hop]; simp only [Op.operands, Call.operands, hb]; simp [a2])
  have hvy := hu y (by rw [hop]; simp only [Op.operands, Call.operands, hb]; simp [a2])
  rw [hx] at hvx
  refine did_next (by rw [hop]; simp) (d := .sq true sz []) (h' := s.H) ⟨a.eval x, w, M, .inl ?_, hr, hvx, .refl _ _⟩ next Q fun M' w' v g1 g2 g3 => hn M' w' v (by cases o.dst <;> exact g1) g2 g3
  simp only [execOp, hop, resolve, hb, invoke, builtin, Sem.run_bind, Sem.run_pure, Result.andThen_ok, a1, a2, List.map_toArray, List.map_cons, List.map_nil, append_nothing hr hti h1 h2 hvx hvy]

/-- A guard that is known. -/
def gK (g : GS) (A : Prop) : Prop :=
  match g with
  | .run true => A
  | _ => False
def drawG (z : Bool) (P : Program) (tb : Tb) : List (Option Tmp) → List Oper → S → (S → Prop) → Prop
  | _, [], s, K => K s
  | h, o :: rest, s, K => gK (guardS (hAt h) s.tm o.guard) (bif isBuild o.op then bsK P o s (fun d => drawG z P tb (h ++ [o.dst]) rest (s.put o.dst d) K) else bif isLoad o.op then lsK P o s (fun d => drawG z P tb (h ++ [o.dst]) rest (s.put o.dst d) K) else bif (z && isNilA s o.op) then naK P o s (fun d => drawG z P tb (h ++ [o.dst]) rest (s.put o.dst d) K) else stepDW P tb true o s (fun s' => drawG z P tb (h ++ [o.dst]) rest s' K))

theorem drawG_chain {z : Bool} {P : Program} {rl : Option Nat} {tb : Tb} (ht : TbOk P tb) {ops : List Oper} {K : S → Prop} : ∀ (l pre : List Oper) (s : S), ops = pre ++ l → drawG z P tb (pre.map (·.dst)) l s K →
    ∃ (st : Nat → S) (val : Nat → D), st pre.length = s ∧ K (st (pre.length + l.length)) ∧ ∀ (i : Nat) (o : Oper), pre.length ≤ i → i < pre.length + l.length → ops[i]? = some o → Bq.StepOK P rl ops o (st i) (val i) (st (i + 1))
  | [], pre, s, ho, hs => ⟨fun _ => s, fun _ => .un, rfl, hs, fun i o hi hl => by simp at hl; omega⟩
  | o :: rest, pre, s, ho, hs => by
    have hoi : ops[pre.length]? = some o := by rw [ho]; simp
    unfold drawG gK at hs
    split at hs
    case h_2 => exact hs.elim
    rename_i hg
    have fin : ∀ (d : D) (s' : S), Bq.StepOK P rl ops o s d s' → drawG z P tb (pre.map (·.dst) ++ [o.dst]) rest s' K → ∃ (st : Nat → S) (val : Nat → D), st pre.length = s ∧ K (st (pre.length + (o :: rest).length)) ∧ ∀ (i : Nat) (q : Oper), pre.length ≤ i → i < pre.length + (o :: rest).length → ops[i]? = some q → Bq.StepOK P rl ops q (st i) (val i) (st (i + 1)) := by
      intro d s' h1 h2
      obtain ⟨st, val, g1, g2, g3⟩ := drawG_chain ht rest (pre ++ [o]) s' (by simpa using ho) (by simpa using h2)
      simp only [List.length_append, List.length_cons, List.length_nil, Nat.zero_add] at g1 g2 g3
      refine ⟨fun i => if i = pre.length then s else st i, fun i => if i = pre.length then d else val i, if_pos rfl, ?_, fun i q hi hl hq => ?_⟩
      · dsimp only
        rw [if_neg (by simp), show pre.length + (o :: rest).length = pre.length + 1 + rest.length by simp; omega]
        exact g2
      · dsimp only
        by_cases hip : i = pre.length
        · subst hip
          rw [hoi] at hq
          cases hq
          rw [if_pos rfl, if_pos rfl, if_neg (by omega), g1]
          exact h1
        · rw [if_neg hip, if_neg hip, if_neg (by omega)]
          exact g3 i q (by omega) (by simp at hl; omega) hq
    have hg2 := hgs_ok ho rfl (tm := s.tm) (by rw [hg]; simp)
    rw [hg] at hg2
    have hconv : guardS (fun j => (ops.toArray[j]?).bind (·.dst)) s.tm o.guard = guardS (fun j => (ops[j]?).bind (·.dst)) s.tm o.guard := by simp
    have hw : ∀ (M : Mem) (a : Act), (∀ t ∈ looks o (fun j => (ops[j]?).bind (·.dst)), ∀ x, lk s.tm t = some x → R M x (a.tmps.getD t undef)) → Region.wanted o (yielded ops.toArray a.tmps) = true := fun M a hf =>
      (guardS_ok (M := M) (w := default) (ops := ops.toArray) (s := s) (a := a) (o := o) fun j want t hgu ht d hd => hf t (by
        unfold looks
        rw [hgu]
        have ht : (ops[j]?).bind (·.dst) = some t := by simpa using ht
        simp only [ht]
        simp) d hd).1 true (hconv.trans hg2)
    cases hb : isBuild o.op with
    | true =>
      rw [hb] at hs
      simp only [cond_true] at hs
      obtain ⟨d, h1, h2⟩ := stepB_build (rl := rl) (ops := ops) hw hs
      exact fin d _ h1 h2
    | false =>
      rw [hb] at hs
      simp only [cond_false] at hs
      cases hld : isLoad o.op with
      | true =>
        rw [hld] at hs
        simp only [cond_true] at hs
        obtain ⟨d, h1, h2⟩ := stepB_load (rl := rl) (ops := ops) hw hs
        exact fin d _ h1 h2
      | false =>
      rw [hld] at hs
      simp only [cond_false] at hs
      cases hna : (z && isNilA s o.op) with
      | true =>
        rw [hna] at hs
        simp only [cond_true] at hs
        obtain ⟨d, h1, h2⟩ := stepB_nil (rl := rl) (ops := ops) hw hs
        exact fin d _ h1 h2
      | false =>
      rw [hna] at hs
      simp only [cond_false] at hs
      obtain ⟨d, s', h1, h2⟩ := step_ok (ops := ops) (rl := rl) hw (guardS_gOk hg) (stepDW_ok ht hs)
      exact fin d s' (stepB_of hb hld h2) h1

theorem w_drawG (z : Bool) {P : Program} {rl : Option Nat} {I : Gh} {tb : Tb} (ht : TbOk P tb) {Q : X → S → Prop} {s : S} {id : Nat} {l : List Oper} (b : Nat) (hm : P.follows .mixedOrders = true) (ho : Bq.orderOk (l.take b) = true) (hB : barOk b l = true)
    (h : drawG z P tb [] (l.take b) s (fun s1 => SeqOk P rl I l b Q s1)) : W P rl I (.region id l.toArray true) Q s := by
  obtain ⟨zs', hbar⟩ := bar_ok hB
  obtain ⟨st, val, h1, h2, h3⟩ := drawG_chain (rl := rl) ht (ops := l.take b) (l.take b) [] s (by simp) h
  simp only [List.length_nil, Nat.zero_add] at h1 h2 h3
  have h3 : ∀ (i : Nat) (o : Oper), (l.take b)[i]? = some o → Bq.StepOK P rl (l.take b) o (st i) (val i) (st (i + 1)) := fun i o hi => h3 i o (Nat.zero_le _) (List.getElem?_eq_some_iff.1 hi).1 hi
  intro r M w a zs hrl hr hgh
  obtain ⟨ord, hg⟩ := Bq.ord_ok ho
  refine wpIn_region_any hm ?_
  obtain ⟨d1, d2⟩ := hr.h.drawn (w.drawn + 1)
  have hble := hbar.le
  have hlen : (l.take b).length = b := by simp; omega
  have hf : ∀ (n j : Nat), (Array.replicate n false).getD j false = false := fun n j => by
    simp only [Array.getD_eq_getD_getElem?, Array.getElem?_replicate]
    split <;> rfl
  have hgl : (st (l.take b).length).g = s.g := by rw [(Bq.st_n h3 (l.take b).length (Nat.le_refl _)).2.2.1, h1]
  have hdrawn := Bq.drawn_any (r := r) (zs := zs) (tl := false) (sB := s) hg h3 (fun q => by cases q) (Q := xq (fun a' w' => wpOpsIn (WF r) 0 P l.toArray (EndsS rl r I zs Q) (List.range' b (l.length - b)) a' w') (EndsS rl r I zs Q)) (M0 := M) (w0 := w)
    (fun M' w' a' g1 g2 g3 => h2 r M' w' a' zs g3 g1 (by rw [hgl]; exact hgh.mono g2))
    b (Array.replicate b false) M { w with drawn := w.drawn + 1 } a
    ⟨by rw [hlen]; simp, fun i _ hl => (by rw [hf] at hl; cases hl), .inl ⟨0, Nat.zero_le _, by rw [h1]; exact d1, fun j o _ _ => by rw [hf]; simp⟩, fun j o t _ _ hl => (by rw [hf] at hl; cases hl), fun t _ x hx => hr.t t x (by rw [← h1]; exact hx), by rw [h1]; exact hr.sz, by rw [h1]; exact hr.df, by rw [h1]; exact hr.ex⟩
    d2.w (hrl.mono d2.le) (Nat.le_trans List.countP_le_length (by rw [List.length_range, hlen]; exact Nat.le_refl _))
  have hcount : (List.range b).countP (fun k => !(Array.replicate b false).getD k true) = b := by
    have : (List.range b).countP (fun k => !(Array.replicate b false).getD k true) = (List.range b).length := by
      rw [List.countP_eq_length]
      intro k hk
      have := List.mem_range.1 hk
      simp [Array.getD, this]
    rw [this, List.length_range]
  have := any_pre (P := P) hbar (F := WF r) (n := 0) (Q := EndsS rl r I zs Q) (N := fun a' w' => wpOpsIn (WF r) 0 P l.toArray (EndsS rl r I zs Q) (List.range' b (l.length - b)) a' w') (fun _ _ h => h) b (Array.replicate b false) (Array.replicate l.length false) a { w with drawn := w.drawn + 1 } (by simp) (by simp) (fun j _ => by rw [hf, hf]) (fun j _ _ => hf _ _) (fun i _ hl => by rw [hf] at hl; cases hl) hcount hdrawn
  rw [show b + (l.length - b) = l.length by omega] at this
  rw [List.size_toArray]
  exact this

section
variable {z : Bool} {P : Program} {tb : Tb} {o : Oper} {s s' : S} {K : S → Prop} {h : List (Option Tmp)}
theorem gK_run {A : Prop} : gK (.run true) A = A := rfl
@[congr] theorem gK_congr {g g' : GS} {A : Prop} (h : g = g') : gK g A = gK g' A := by rw [h]
theorem drawG_nil : drawG z P tb h [] s K = K s := rfl
theorem drawG_step {rest : List Oper} {n : Nat} {tm : List (Nat × D)} {hp : List (Nat × Blk)} {nx : Nat} {df : List Nat} {g : Option Nat} {ex : List D} : drawG z P tb h (o :: rest) ⟨n, tm, hp, nx, df, g, ex⟩ K = gK (ev (guardS (hAt h) tm o.guard)) (bK (ev (isBuild o.op)) (bsK P o ⟨n, tm, hp, nx, df, g, ex⟩ (fun d => drawG z P tb (h ++ [o.dst]) rest (ev ((S.mk n tm hp nx df g ex).put o.dst d)) K)) (bK (ev (isLoad o.op)) (lsK P o ⟨n, tm, hp, nx, df, g, ex⟩ (fun d => drawG z P tb (h ++ [o.dst]) rest (ev ((S.mk n tm hp nx df g ex).put o.dst d)) K)) (bK (z && ev (isNilA ⟨n, tm, hp, nx, df, g, ex⟩ o.op)) (naK P o ⟨n, tm, hp, nx, df, g, ex⟩ (fun d => drawG z P tb (h ++ [o.dst]) rest (ev ((S.mk n tm hp nx df g ex).put o.dst d)) K)) (stepDW P tb true o ⟨n, tm, hp, nx, df, g, ex⟩ (fun s' => drawG z P tb (h ++ [o.dst]) rest s' K))))) := by
  simp only [ev_eq]
  rfl
@[congr] theorem drawG_congr {l : List Oper} (hs : s = s') : drawG z P tb h l s K = drawG z P tb h l s' K := by rw [hs]
end
attribute [simp ↓] drawG_nil gK_run
attribute [simp] drawG_step
end Go.Ev.Bg

/-
  What is told with less; calls that are reckoned by the engine, from symbolic states; guards that are known.
-/
namespace Go.Ev
open Go.Aw (WF enters tiOf)

/-! ### What is told with less -/
inductive Wk : D → D → Prop
  | refl (d : D) : Wk d d
  | nil (f : Bool) (sz : Nat) : Wk (.lit (.slice none 0 0)) (.sq f sz [])
  | agg (l m : List D) (hl : m.length = l.length) (h : ∀ (i : Nat) d d', l[i]? = some d → m[i]? = some d' → Wk d d') : Wk (.agg l) (.agg m)
  | sq (f g : Bool) (sz : Nat) (rows rows' : List (List D)) (hf : g = true → f = true) (hl : rows'.length = rows.length) (hz : ∀ (i : Nat) r r', rows[i]? = some r → rows'[i]? = some r' → r'.length = r.length)
      (h : ∀ (i : Nat) r r' (j : Nat) x x', rows[i]? = some r → rows'[i]? = some r' → r[j]? = some x → r'[j]? = some x' → Wk x x') : Wk (.sq f sz rows) (.sq g sz rows')

theorem get_both {α β : Type} {l : List α} {m : List β} (hl : m.length = l.length) {i : Nat} {b : β} (h : m[i]? = some b) : ∃ a, l[i]? = some a := by
  have := (List.getElem?_eq_some_iff.1 h).1
  exact ⟨l[i], List.getElem?_eq_getElem (by omega)⟩

theorem Wk.ok {d d' : D} (h : Wk d d') : ∀ {M : Mem} {v : Value}, R M d v → R M d' v := by
  induction h with
  | refl => exact fun h => h
  | nil f sz => intro M v h; cases h; exact .sqn _ _ _
  | agg l m hl _ ih =>
    intro M v h
    cases h with
    | agg _ cs hs h1 h2 =>
    refine .agg m cs (by rw [hs, hl]) (fun i d hi => ?_) (fun i d hi => ?_)
    · obtain ⟨a, ha⟩ := get_both hl hi
      exact h1 i a ha
    · obtain ⟨a, ha⟩ := get_both hl hi
      exact ih i a d ha hi (h2 i a ha)
  | sq f g sz rows rows' hf hl hz _ ih =>
    intro M v h
    cases h with
    | sqn =>
      have : rows' = [] := List.eq_nil_of_length_eq_zero (by simpa using hl)
      subst this
      exact .sqn _ _ _
    | sq _ _ _ b off k c V hb hn hm hk hz1 h1 h2 =>
      rw [← hl]
      refine .sq g sz rows' b off k c V hb (by omega) hm (fun e => by rw [hk (hf e), hl]) (fun r hr => ?_) (fun i r j x hi hj => ?_) (fun i r j x hi hj => ?_)
      · obtain ⟨i, hi⟩ := List.mem_iff_getElem?.1 hr
        obtain ⟨a, ha⟩ := get_both hl hi
        rw [hz i a r ha hi]
        exact hz1 a (List.mem_iff_getElem?.2 ⟨i, ha⟩)
      · obtain ⟨a, ha⟩ := get_both hl hi
        obtain ⟨y, hy⟩ := get_both (hz i a r ha hi) hj
        exact h1 i a j y ha hy
      · obtain ⟨a, ha⟩ := get_both hl hi
        obtain ⟨y, hy⟩ := get_both (hz i a r ha hi) hj
        exact ih i a r j y x ha hi hy hj (h2 i a j y ha hy)

def WkL : List D → List D → Prop
  | [], [] => True
  | a :: l, b :: m => Wk a b ∧ WkL l m
  | _, _ => False
theorem WkL.len : ∀ {l m : List D}, WkL l m → m.length = l.length
  | [], [], _ => rfl
  | _ :: l, _ :: m, h => by simp [WkL.len h.2]
  | [], _ :: _, h => h.elim
  | _ :: _, [], h => h.elim
theorem WkL.get : ∀ {l m : List D}, WkL l m → ∀ (i : Nat) d d', l[i]? = some d → m[i]? = some d' → Wk d d'
  | [], [], _, i, d, d', h1, _ => by simp at h1
  | a :: l, b :: m, h, 0, d, d', h1, h2 => by simp at h1 h2; subst h1 h2; exact h.1
  | a :: l, b :: m, h, i + 1, d, d', h1, h2 => h.2.get i d d' (by simpa using h1) (by simpa using h2)
  | [], _ :: _, h, _, _, _, _, _ => h.elim
  | _ :: _, [], h, _, _, _, _, _ => h.elim
def WkLL : List (List D) → List (List D) → Prop
  | [], [] => True
  | a :: l, b :: m => WkL a b ∧ WkLL l m
  | _, _ => False
theorem WkLL.len : ∀ {l m : List (List D)}, WkLL l m → m.length = l.length
  | [], [], _ => rfl
  | _ :: l, _ :: m, h => by simp [WkLL.len h.2]
  | [], _ :: _, h => h.elim
  | _ :: _, [], h => h.elim
theorem WkLL.get : ∀ {l m : List (List D)}, WkLL l m → ∀ (i : Nat) d d', l[i]? = some d → m[i]? = some d' → WkL d d'
  | [], [], _, i, d, d', h1, _ => by simp at h1
  | a :: l, b :: m, h, 0, d, d', h1, h2 => by simp at h1 h2; subst h1 h2; exact h.1
  | a :: l, b :: m, h, i + 1, d, d', h1, h2 => h.2.get i d d' (by simpa using h1) (by simpa using h2)
  | [], _ :: _, h, _, _, _, _, _ => h.elim
  | _ :: _, [], h, _, _, _, _, _ => h.elim
theorem Wk.sqL {f g : Bool} {sz : Nat} {rows rows' : List (List D)} (hf : g = true → f = true) (h : WkLL rows rows') : Wk (.sq f sz rows) (.sq g sz rows') :=
  .sq f g sz rows rows' hf h.len (fun i r r' h1 h2 => (h.get i r r' h1 h2).len) (fun i r r' j x x' h1 h2 h3 h4 => (h.get i r r' h1 h2).get j x x' h3 h4)

theorem fnO_wk {P : Program} {g : FuncId} {xs ys : List D} {o : Out} (h : FnO P g xs o) (hw : WkL ys xs) : FnO P g ys o := by
  have key : ∀ M vs, argsOk M ys vs → argsOk M xs vs := fun M vs hv => ⟨by rw [hv.1, hw.len], fun i d hd => by
    obtain ⟨a, ha⟩ := get_both hw.len hd
    exact (hw.get i a d ha hd).ok (hv.2 i a ha)⟩
  rcases h with ⟨h1, h2⟩ | ⟨h1, h2⟩
  · exact .inl ⟨h1, fun fz w vs hi hvs => h2 fz w vs hi (key _ _ hvs)⟩
  · exact .inr ⟨h1, fun fz w vs hi hvs => h2 fz w vs hi (key _ _ hvs)⟩

/-! ### Guards that are known -/
/-! ### A call that the engine reckoned -/
theorem toT_ofL (l : List (Nat × Blk)) : ∀ i, (ofL l).get i = lk l i := by
  induction l with
  | nil => intro i; rfl
  | cons p r ih =>
    intro i
    obtain ⟨j, k⟩ := p
    simp only [ofL, T.get_set, lk, ih]

theorem callS_ent {P : Program} {rl : Option Nat} {I : Gh} {e : Ent} (he : EntOk P e) {s : S} {so : Prop} {g : Option (Nat × Bool)} {dst : Option Tmp} {K : S → Prop} {Kp : D → S → Prop} (hnx : s.nx = e.nx) (hhp : ∀ i k, lk e.hp i = some k → lk s.hp i = some k) (hdf : s.df = []) (hso : so)
    (hK : ({ s with hp := e.hp', nx := e.nx' } : S).room dst ∧ K (({ s with hp := e.hp', nx := e.nx' } : S).put dst e.d)) : CallS P rl I true (.fn (.func e.g) [] []) e.args so g dst s K Kp := by
  refine .inr ⟨fun _ => ⟨hso, ?_⟩, fun h => by cases h⟩
  intro r M w a zs hrl hr hg vs hvs
  rw [List.append_nil, List.nil_append] at hvs
  have hr0 : RH M { hp := ofL e.hp, nx := e.nx } w := ⟨hr.h.inv, fun i k h => hr.h.hp i k (by show (toT s.hp).get i = _; rw [get_toT]; exact hhp i k (by rw [← toT_ofL]; exact h)), by rw [← hr.h.nx, ← hnx]; rfl⟩
  obtain ⟨hen, hc⟩ := he
  refine .inl ⟨hen, (hc M w vs hr0 hvs).mono ?_⟩
  rintro _ w' ⟨v, M', rfl, h1, h2, h3⟩
  refine ⟨M', { s with hp := e.hp', nx := e.nx' }, .ret e.d, ⟨⟨h1.inv, fun i k h => h1.hp i k (by rw [toT_ofL]; rw [← get_toT]; exact h), h1.nx⟩, hr.sz, fun t d ht => (hr.t t d ht).mono h3.le, ?_, fun i d hi => (hr.ex i d hi).mono h3.le⟩, hg.mono h3.w, hrl.mono h3.le, ⟨v, rfl, h2⟩, hK⟩
  obtain ⟨bs, k1, k2, k3⟩ := hr.df
  refine ⟨bs, k1, k2, fun i l hi => ?_⟩
  rw [hdf] at hi
  simp at hi
end Go.Ev

/-
  Regions that draw their order, in which new variables stand nowhere in the order: their blocks are named behind all (printed by a program of mine out of SyMe).
-/
namespace Go.Ev.Bl
open Go.Ev
open Go.Aw (WF enters)

def isBig : Op → Bool
  | .box _ _ => true
  | .makeSlice _ _ _ => true
  | .store _ _ _ => true
  | .call c => (match c.callee with
    | .builtin .append => true
    | .value _ => true
    | _ => false)
  | _ => false

/-- Does it look at memory, or write it? -/
def heapy : Op → Bool
  | .binOp _ _ _ _ _ => true
  | op => isBig op

/-- Does it only make what is new? -/
def isAl : Op → Bool
  | .box _ _ => true
  | .makeSlice _ _ _ => true
  | _ => false

/-- More is known. -/
def HLe (h h' : H) : Prop := ∀ l k, h.hp.get l = some k → h'.hp.get l = some k

theorem HLe.refl (h : H) : HLe h h := fun _ _ e => e
theorem HLe.trans {h h1 h2 : H} (a : HLe h h1) (b : HLe h1 h2) : HLe h h2 := fun l k e => b l k (a l k e)

def isStore (o : Oper) : Bool :=
  match o.op, o.guard, o.dst with
  | .store _ _ _, none, none => true
  | _, _, _ => false

/-- Do two stores stand last? -/
def tailPair (ops : List Oper) : Bool :=
  match ops.drop (ops.length - 2) with
  | [a, b] => isStore a && isStore b
  | _ => false

def inTail (n i j : Nat) : Bool := (Nat.beq (i + 2) n && Nat.beq (j + 1) n) || (Nat.beq (j + 2) n && Nat.beq (i + 1) n)

/-- All that is asked of a region once and for all; of two stores that stand last, where 'tl' says so, no order. -/
def pairOk (tl : Bool) (gd : Nat → Option Tmp) (anc0 : List Nat) (ops : List Oper) (i j : Nat) : Bool :=
  match ops[i]?, ops[j]? with
  | some o, some q => Nat.beq i j || ((match q.dst with
      | some t => (!(looks o gd).contains t || (bif Nat.blt j i then Nat.testBit (anc0.getD i 0) j else Nat.testBit (anc0.getD j 0) i)) && (match o.dst with
        | some u => !Nat.beq t u
        | none => true)
      | none => true) && (!(heapy o.op && isBig q.op) || (((tl && inTail ops.length i j) || (!isBig o.op && (isAl q.op && Nat.blt i j))) || (bif Nat.blt j i then Nat.testBit (anc0.getD i 0) j else Nat.testBit (anc0.getD j 0) i))))
  | _, _ => true

def orderB (tl : Bool) (ops : List Oper) : Bool :=
  match ancsGo ops [] with
  | some anc0 => (List.range ops.length).all fun i => (List.range ops.length).all fun j => pairOk tl (fun j => (ops[j]?).bind (·.dst)) anc0 ops i j
  | none => false

def orderOk (ops : List Oper) : Bool := orderB false ops
def orderT (ops : List Oper) : Bool := orderB (tailPair ops) ops

/-- A new variable whose block has no name. -/
def Late (P : Program) (n0 : Nat) (ty : TypeId) (M : Mem) (w : World) (v : Value) : Prop :=
  ∀ ti, Go.Aw.tiOf P ty = some ti → ∃ b cur, v = .pointer (some ⟨b, 0, none⟩) ∧ n0 ≤ b ∧ (∀ l c, M.μ l ≠ .blk b c) ∧ (∀ q, M.fz b ≠ some q) ∧ w.heap[b]? = some (.cells cur ty (0, 0)) ∧ cur.size = (ti.z.map zD).length ∧ ∀ (M' : Mem) (j : Nat) x, (ti.z.map zD)[j]? = some x → (cur.getD j undef).oneCell' = true ∧ R M' x (cur.getD j undef)
theorem Late.ext {P : Program} {n0 : Nat} {ty : TypeId} {M M' : Mem} {w w' : World} {v : Value} (h : Late P n0 ty M w v) (he : Ext M w M' w') : Late P n0 ty M' w' v := fun ti hti => by
  obtain ⟨b, cur, h1, h2, h3, h4, h5, h6, h7⟩ := h ti hti
  have hlt := (Array.getElem?_eq_some_iff.1 h5).1
  refine ⟨b, cur, h1, h2, fun l c e => ?_, fun q e => ?_, (he.keep b hlt h3).trans h5, h6, h7⟩
  · rcases he.new l b c e with ⟨l', c', h⟩ | h
    · exact h3 l' c' h
    · omega
  · rcases he.fznew b q e with h | ⟨l', c', h⟩ | h
    · exact h4 q h
    · exact h3 l' c' h
    · omega

/-- One operation, wherever it is done. -/
structure StepOK (P : Program) (rl : Option Nat) (n0 : Nat) (ops : List Oper) (o : Oper) (s : S) (d : D) (s' : S) : Prop where
  n : s'.n = s.n
  df : s'.df = s.df
  g : s'.g = s.g
  ex : s'.ex = s.ex
  room : s.room o.dst
  tm : s'.tm = (s.put o.dst d).tm
  heap : isBig o.op = false → s'.H = s.H
  grow : isAl o.op = true → HLe s.H s'.H
  run : ∀ r M w (a : Act) h, RelR M rl r → n0 ≤ w.heap.size → RH M h w → (isBig o.op = true → h = s.H) → (heapy o.op = true → HLe s.H h) → a.tmps.size = s.n → (∀ t ∈ looks o (fun j => (ops[j]?).bind (·.dst)), ∀ x, lk s.tm t = some x → R M x (a.tmps.getD t undef)) →
    ∀ (next : Act → World → Prop) (Q : Exit → Act → World → Prop), (∀ M' w' v, RH M' (bif isBig o.op then s'.H else h) w' → R M' d v → Ext M w M' w' → (∀ ty, o.op = .alloc ty → Late P n0 ty M' w' v) → next (a.put o.dst v) w') →
      (if Region.wanted o (yielded ops.toArray a.tmps) then o.wpIn (WF r) 0 P a w next Q else (∀ f, o.about P w a.eval = some f → (WF r).fn f) ∧ next (a.put o.dst undef) w)

theorem tm_at {P : Program} {rl : Option Nat} {n0 : Nat} {ops : List Oper} {st : Nat → S} {val : Nat → D} (hst : ∀ (i : Nat) (o : Oper), ops[i]? = some o → StepOK P rl n0 ops o (st i) (val i) (st (i + 1)))
    (hu : ∀ (i j : Nat) (o q : Oper) (t : Tmp), ops[i]? = some o → ops[j]? = some q → o.dst = some t → q.dst = some t → i = j) : ∀ i, i ≤ ops.length → ∀ t x, lk (st i).tm t = some x →
      (∃ j o, j < i ∧ ops[j]? = some o ∧ o.dst = some t ∧ x = val j) ∨ ((∀ j o, j < i → ops[j]? = some o → o.dst ≠ some t) ∧ lk (st 0).tm t = some x) := by
  intro i
  induction i with
  | zero => intro _ t x h; exact .inr ⟨fun j o hj => by omega, h⟩
  | succ i ih =>
    intro hi t x h
    have ho : ops[i]? = some ops[i] := List.getElem?_eq_getElem (by omega)
    have hs := hst i _ ho
    rw [hs.tm] at h
    have fall : lk (st i).tm t = some x → (∀ u, (ops[i]).dst = some u → u ≠ t) → (∃ j o, j < i + 1 ∧ ops[j]? = some o ∧ o.dst = some t ∧ x = val j) ∨ ((∀ j o, j < i + 1 → ops[j]? = some o → o.dst ≠ some t) ∧ lk (st 0).tm t = some x) := fun h2 hne => by
      rcases ih (by omega) t x h2 with ⟨j, o, h3, h4, h5, h6⟩ | ⟨h3, h4⟩
      · exact Or.inl ⟨j, o, by omega, h4, h5, h6⟩
      · refine Or.inr ⟨fun j o hj hjo hd => ?_, h4⟩
        by_cases hji : j = i
        · subst hji
          rw [ho] at hjo
          cases hjo
          exact hne t hd rfl
        · exact h3 j o (by omega) hjo hd
    cases hd : (ops[i]).dst with
    | none =>
      rw [hd] at h
      exact fall h (fun u hu => by rw [hd] at hu; cases hu)
    | some u =>
      rw [hd] at h
      simp only [S.put, lk_up] at h
      by_cases hut : u = t
      · subst hut
        rw [if_pos rfl] at h
        cases h
        exact .inl ⟨i, _, by omega, ho, hd, rfl⟩
      · rw [if_neg hut] at h
        exact fall h (fun v hv => by rw [hd] at hv; cases hv; exact hut)

/-- What is known of a region that draws its order. -/
structure Ordr (tl : Bool) (ops : List Oper) (anc0 : List Nat) : Prop where
  lt : ∀ (i : Nat) (o : Oper), ops[i]? = some o → ∀ e ∈ o.after.toList, Region.binds .any e = true → e.on < i
  anc : ∀ (i : Nat) (o : Oper) (x : Nat), ops[i]? = some o → (anc0.getD i 0).testBit x = true → ∃ e ∈ o.after.toList, Region.binds .any e = true ∧ (e.on = x ∨ (anc0.getD e.on 0).testBit x = true)
  alt : ∀ (i x : Nat), i < ops.length → (anc0.getD i 0).testBit x = true → x < i
  looks : ∀ (i j : Nat) (o q : Oper) (t : Tmp), ops[i]? = some o → ops[j]? = some q → i ≠ j → q.dst = some t → t ∈ Go.Ev.looks o (fun j => (ops[j]?).bind (·.dst)) → (j < i → (anc0.getD i 0).testBit j = true) ∧ (i < j → (anc0.getD j 0).testBit i = true)
  uniq : ∀ (i j : Nat) (o q : Oper) (t : Tmp), ops[i]? = some o → ops[j]? = some q → o.dst = some t → q.dst = some t → i = j
  big : ∀ (i j : Nat) (o q : Oper), ops[i]? = some o → ops[j]? = some q → i ≠ j → ((tl && inTail ops.length i j) || (!isBig o.op && (isAl q.op && Nat.blt i j))) = false → heapy o.op = true → isBig q.op = true → (j < i → (anc0.getD i 0).testBit j = true) ∧ (i < j → (anc0.getD j 0).testBit i = true)

theorem ord_ok {tl : Bool} {ops : List Oper} (h : orderB tl ops = true) : ∃ anc0, Ordr tl ops anc0 := by
  unfold orderB at h
  split at h
  case h_2 => cases h
  rename_i anc0 has
  obtain ⟨a1, _, a3⟩ := ancsGo_ok _ _ _ has
  simp only [List.length_nil, Nat.zero_add] at a1 a3
  have hp : ∀ i j, i < ops.length → j < ops.length → pairOk tl (fun j => (ops[j]?).bind (·.dst)) anc0 ops i j = true := fun i j hi hj =>
    List.all_eq_true.1 (List.all_eq_true.1 h i (List.mem_range.2 hi)) j (List.mem_range.2 hj)
  have hgd : ∀ i m, anc0[i]? = some m → anc0.getD i 0 = m := fun i m e => by simp [List.getD_eq_getElem?_getD, e]
  have lt : ∀ i o, ops[i]? = some o → ∀ e ∈ o.after.toList, Region.binds .any e = true → e.on < i := fun i o ho => by
    obtain ⟨m, e1, e2, e3⟩ := a3 i o ho
    exact e2
  have anc : ∀ i o x, ops[i]? = some o → (anc0.getD i 0).testBit x = true → ∃ e ∈ o.after.toList, Region.binds .any e = true ∧ (e.on = x ∨ (anc0.getD e.on 0).testBit x = true) := fun i o x ho hx => by
    obtain ⟨m, e1, e2, e3⟩ := a3 i o ho
    rw [hgd _ _ e1] at hx
    obtain ⟨e, h1, h2, h3⟩ := e3 x hx
    exact ⟨e, h1, h2, h3.imp id fun ⟨m', q1, q2⟩ => by rw [hgd _ _ q1]; exact q2⟩
  have bif_cases : ∀ {i j : Nat} {x y : Bool}, i ≠ j → (bif Nat.blt j i then x else y) = true → (j < i → x = true) ∧ (i < j → y = true) := fun {i j x y} hij hb => by
    cases hbl : Nat.blt j i with
    | true => rw [hbl] at hb; exact ⟨fun _ => hb, fun q => by rw [Nat.blt_eq] at hbl; omega⟩
    | false =>
      rw [hbl] at hb
      have : ¬ j < i := fun q => by rw [← Nat.blt_eq, hbl] at q; cases q
      exact ⟨fun q => absurd q this, fun _ => hb⟩
  have parts : ∀ i j o q, ops[i]? = some o → ops[j]? = some q → i ≠ j → ((match q.dst with
      | some t => (!(looks o (fun j => (ops[j]?).bind (·.dst))).contains t || (bif Nat.blt j i then Nat.testBit (anc0.getD i 0) j else Nat.testBit (anc0.getD j 0) i)) && (match o.dst with
        | some u => !Nat.beq t u
        | none => true)
      | none => true) = true) ∧ (!(heapy o.op && isBig q.op) || (((tl && inTail ops.length i j) || (!isBig o.op && (isAl q.op && Nat.blt i j))) || (bif Nat.blt j i then Nat.testBit (anc0.getD i 0) j else Nat.testBit (anc0.getD j 0) i))) = true := fun i j o q ho hq hij => by
    have := hp i j (List.getElem?_eq_some_iff.1 ho).1 (List.getElem?_eq_some_iff.1 hq).1
    unfold pairOk at this
    simp only [ho, hq] at this
    have hne : Nat.beq i j = false := by
      cases hb : Nat.beq i j with
      | true => exact absurd (Nat.eq_of_beq_eq_true hb) hij
      | false => rfl
    rw [hne, Bool.false_or, Bool.and_eq_true] at this
    exact this
  refine ⟨anc0, lt, anc, ?_, fun i j o q t ho hq hij hd ht => ?_, fun i j o q t ho hq hd hd2 => ?_, fun i j o q ho hq hij h0 h1 h2 => ?_⟩
  · intro i
    induction i using Nat.strongRecOn with
    | _ i ih =>
      intro x hi hx
      obtain ⟨e, h1, h2, h3⟩ := anc i _ x (List.getElem?_eq_getElem hi) hx
      have hl := lt i _ (List.getElem?_eq_getElem hi) e h1 h2
      rcases h3 with rfl | h3
      · exact hl
      · have := ih e.on hl x (by omega) h3; omega
  · have := (parts i j o q ho hq hij).1
    simp only [hd, Bool.and_eq_true] at this
    have h1 := this.1
    have hc : (looks o (fun j => (ops[j]?).bind (·.dst))).contains t = true := List.contains_iff_mem.2 ht
    rw [hc] at h1
    exact bif_cases hij (by simpa using h1)
  · cases Nat.decEq i j with
    | isTrue e => exact e
    | isFalse e =>
      have := (parts i j o q ho hq e).1
      simp only [hd, hd2, Nat.beq_refl, Bool.not_true, Bool.and_false] at this
      cases this
  · have := (parts i j o q ho hq hij).2
    rw [h0, h1, h2] at this
    exact bif_cases hij (by simpa using this)

theorem heap_same {P : Program} {rl : Option Nat} {n0 : Nat} {ops : List Oper} {st : Nat → S} {val : Nat → D} (hst : ∀ (i : Nat) (o : Oper), ops[i]? = some o → StepOK P rl n0 ops o (st i) (val i) (st (i + 1))) :
    ∀ (k p : Nat), p + k ≤ ops.length → (∀ j o, ops[j]? = some o → p ≤ j → j < p + k → isBig o.op = false) → (st (p + k)).H = (st p).H
  | 0, _, _, _ => rfl
  | k + 1, p, hl, hn => by
    have ho : ops[p + k]? = some ops[p + k] := List.getElem?_eq_getElem (by omega)
    rw [show p + (k + 1) = (p + k) + 1 by omega, (hst (p + k) _ ho).heap (hn (p + k) _ ho (by omega) (by omega))]
    exact heap_same hst k p (by omega) (fun j o h1 h2 h3 => hn j o h1 h2 (by omega))

theorem heap_grow {P : Program} {rl : Option Nat} {n0 : Nat} {ops : List Oper} {st : Nat → S} {val : Nat → D} (hst : ∀ (i : Nat) (o : Oper), ops[i]? = some o → StepOK P rl n0 ops o (st i) (val i) (st (i + 1))) :
    ∀ (k p : Nat), p + k ≤ ops.length → (∀ j o, ops[j]? = some o → p ≤ j → j < p + k → isBig o.op = true → isAl o.op = true) → HLe (st p).H (st (p + k)).H
  | 0, _, _, _ => HLe.refl _
  | k + 1, p, hl, hn => by
    have ho : ops[p + k]? = some ops[p + k] := List.getElem?_eq_getElem (by omega)
    have ih := heap_grow hst k p (by omega) (fun j o h1 h2 h3 => hn j o h1 h2 (by omega))
    refine ih.trans ?_
    have hs := hst (p + k) _ ho
    cases hb : isBig (ops[p + k]).op with
    | false => rw [show p + (k + 1) = (p + k) + 1 by omega, hs.heap hb]; exact HLe.refl _
    | true => exact hs.grow (hn (p + k) _ ho (by omega) (by omega) hb)

theorem heap_eq {P : Program} {rl : Option Nat} {n0 : Nat} {ops : List Oper} {st : Nat → S} {val : Nat → D} (hst : ∀ (i : Nat) (o : Oper), ops[i]? = some o → StepOK P rl n0 ops o (st i) (val i) (st (i + 1))) {p q : Nat} (hp : p ≤ ops.length) (hq : q ≤ ops.length)
    (h : ∀ j o, ops[j]? = some o → isBig o.op = true → (j < p ↔ j < q)) : (st p).H = (st q).H := by
  rcases Nat.le_total p q with hpq | hpq
  · obtain ⟨k, rfl⟩ := Nat.exists_eq_add_of_le hpq
    refine (heap_same hst k p hq fun j o h1 h2 h3 => ?_).symm
    cases hb : isBig o.op with
    | false => rfl
    | true => have := (h j o h1 hb).2 h3; omega
  · obtain ⟨k, rfl⟩ := Nat.exists_eq_add_of_le hpq
    refine heap_same hst k q hp fun j o h1 h2 h3 => ?_
    cases hb : isBig o.op with
    | false => rfl
    | true => have := (h j o h1 hb).1 h3; omega

/-- What holds wherever the run is. -/
structure DInv (P : Program) (n0 : Nat) (zs : Nat → Value) (tl : Bool) (sB : S) (ops : List Oper) (anc0 : List Nat) (st : Nat → S) (val : Nat → D) (listed : Array Bool) (M : Mem) (w : World) (a : Act) : Prop where
  size : listed.size = ops.length
  closed : ∀ (i : Nat), i < ops.length → listed.getD i false = true → ∀ x, (anc0.getD i 0).testBit x = true → listed.getD x false = true
  heap : (∃ p, p ≤ ops.length ∧ RH M (st p).H w ∧ ∀ (j : Nat) (o : Oper), ops[j]? = some o → isBig o.op = true → (listed.getD j false = true ↔ j < p)) ∨
    (tl = true ∧ RH M sB.H w ∧ ∀ (j : Nat) (o : Oper), ops[j]? = some o → isBig o.op = true → (listed.getD j false = true ↔ j + 2 ≠ ops.length))
  done : ∀ (j : Nat) (o : Oper) (t : Tmp), ops[j]? = some o → o.dst = some t → listed.getD j false = true → R M (val j) (a.tmps.getD t undef)
  old : ∀ (t : Tmp), (∀ (j : Nat) (o : Oper), ops[j]? = some o → o.dst = some t → listed.getD j false = false) → ∀ x, lk (st 0).tm t = some x → R M x (a.tmps.getD t undef)
  sz : a.tmps.size = (st 0).n
  df : ∃ bs : List Nat, a.defers = bs.map (fun b => { target := .collected b, args := #[] }) ∧ bs.length = (st 0).df.length ∧ ∀ (i : Nat) (l : Nat), (st 0).df[i]? = some l → ∃ b : Nat, bs[i]? = some b ∧ M.at l b
  ex : ∀ (i : Nat) d, (st 0).ex[i]? = some d → R M d (zs i)
  late : ∀ (j : Nat) (o : Oper) (t : Tmp) (ty : TypeId), ops[j]? = some o → o.op = .alloc ty → o.dst = some t → listed.getD j false = true → Late P n0 ty M w (a.tmps.getD t undef)

theorem st_n {P : Program} {rl : Option Nat} {n0 : Nat} {ops : List Oper} {st : Nat → S} {val : Nat → D} (hst : ∀ (i : Nat) (o : Oper), ops[i]? = some o → StepOK P rl n0 ops o (st i) (val i) (st (i + 1))) : ∀ i, i ≤ ops.length → (st i).n = (st 0).n ∧ (st i).df = (st 0).df ∧ (st i).g = (st 0).g ∧ (st i).ex = (st 0).ex
  | 0, _ => ⟨rfl, rfl, rfl, rfl⟩
  | i + 1, h => by
    have hs := hst i _ (List.getElem?_eq_getElem (by omega))
    obtain ⟨h1, h2, h3, h4⟩ := st_n hst i (by omega)
    exact ⟨hs.n.trans h1, hs.df.trans h2, hs.g.trans h3, hs.ex.trans h4⟩

theorem ready_allL {tl : Bool} {ops : List Oper} {anc0 : List Nat} (hg : Ordr tl ops anc0) {listed : Array Bool} (hs : listed.size = ops.length) (h : Region.ready .any ops.toArray listed = []) : ∀ i, i < ops.length → listed.getD i true = true := by
  intro i
  induction i using Nat.strongRecOn with
  | _ i ih =>
  intro hi
  cases hl : listed.getD i true with
  | true => rfl
  | false =>
    exfalso
    have : i ∈ Region.ready .any ops.toArray listed := mem_ready.2 ⟨hl, ops[i], by simp [hi], fun e he hb => by
      have hlt := hg.lt i _ (List.getElem?_eq_getElem hi) e (Array.mem_toList_iff.2 he) hb
      have hq := ih e.on hlt (by omega)
      have hlt2 : e.on < listed.size := by omega
      simpa [Array.getD, hlt2] using hq⟩
    rw [h] at this
    cases this

/-- Two stores that stand last, the other way round. -/
structure TailOK (P : Program) (rl : Option Nat) (n0 : Nat) (ops : List Oper) (st : Nat → S) (val : Nat → D) (sB : S) : Prop where
  two : 2 ≤ ops.length
  nal : ∀ (j : Nat) (o : Oper), ops[j]? = some o → j + 1 = ops.length → isAl o.op = false
  big : ∀ (j : Nat) (o : Oper), ops[j]? = some o → j + 2 = ops.length ∨ j + 1 = ops.length → isBig o.op = true
  fst : ∀ (j : Nat) (o : Oper), ops[j]? = some o → j + 1 = ops.length → StepOK P rl n0 ops o (st (ops.length - 2)) (val j) sB
  snd : ∀ (j : Nat) (o : Oper), ops[j]? = some o → j + 2 = ops.length → ∃ sE, StepOK P rl n0 ops o sB (val j) sE ∧ (∀ l, (st ops.length).H.hp.get l = sE.H.hp.get l) ∧ (st ops.length).H.nx = sE.H.nx

theorem drawn_any {P : Program} {rl r : Option Nat} {n0 : Nat} {zs : Nat → Value} {tl : Bool} {sB : S} {ops : List Oper} {anc0 : List Nat} {st : Nat → S} {val : Nat → D} (hg : Ordr tl ops anc0) (hst : ∀ (i : Nat) (o : Oper), ops[i]? = some o → StepOK P rl n0 ops o (st i) (val i) (st (i + 1)))
    (htl : tl = true → TailOK P rl n0 ops st val sB)
    {Q : Exit → Act → World → Prop} {M0 : Mem} {w0 : World} (hn0 : n0 ≤ w0.heap.size) (hQ : ∀ M w a, SRep zs M (st ops.length) w a → ExtW M0 w0 M w → RelR M rl r → (∀ (j : Nat) (o : Oper) (t : Tmp) (ty : TypeId), ops[j]? = some o → o.op = .alloc ty → o.dst = some t → Late P n0 ty M w (a.tmps.getD t undef)) → Q .normal a w) :
    ∀ (fuel : Nat) (listed : Array Bool) (M : Mem) (w : World) (a : Act), DInv P n0 zs tl sB ops anc0 st val listed M w a → ExtW M0 w0 M w → RelR M rl r → (List.range ops.length).countP (fun k => !listed.getD k true) ≤ fuel →
      wpAnyIn (WF r) 0 P .any ops.toArray Q fuel listed a w := by
  have fin : ∀ (listed : Array Bool) (M : Mem) (w : World) (a : Act), DInv P n0 zs tl sB ops anc0 st val listed M w a → ExtW M0 w0 M w → RelR M rl r → (∀ i, i < ops.length → listed.getD i true = true) → Q .normal a w := by
    intro listed M w a hi he hrl hall
    have hl : ∀ i, i < ops.length → listed.getD i false = true := fun i hlt => by
      have := hall i hlt
      have h2 : i < listed.size := by rw [hi.size]; exact hlt
      simpa [Array.getD, h2] using this
    have hRH : RH M (st ops.length).H w := by
      rcases hi.heap with ⟨p, hp, hh, hb⟩ | ⟨ht, hh, hb⟩
      · have hheap : (st p).H = (st ops.length).H := heap_eq hst hp (Nat.le_refl _) fun j o h1 h2 => by
          have hlt := (List.getElem?_eq_some_iff.1 h1).1
          exact ⟨fun _ => hlt, fun _ => (hb j o h1 h2).1 (hl j hlt)⟩
        rw [← hheap]; exact hh
      · have hT := htl ht
        have h2 := hT.two
        have ho : ops[ops.length - 2]? = some ops[ops.length - 2] := List.getElem?_eq_getElem (by omega)
        have := (hb _ _ ho (hT.big _ _ ho (.inl (by omega)))).1 (hl _ (by omega))
        omega
    obtain ⟨e1, e2, _, e4⟩ := st_n hst ops.length (Nat.le_refl _)
    refine hQ M w a ⟨hRH, hi.sz.trans e1.symm, fun t x hx => ?_, by rw [e2]; exact hi.df, by rw [e4]; exact hi.ex⟩ he hrl (fun j o t ty h1 h2 h3 => hi.late j o t ty h1 h2 h3 (hl j (List.getElem?_eq_some_iff.1 h1).1))
    rcases tm_at hst hg.uniq ops.length (Nat.le_refl _) t x hx with ⟨j, o, h1, h2, h3, rfl⟩ | ⟨h1, h2⟩
    · exact hi.done j o t h2 h3 (hl j h1)
    · exact hi.old t (fun j o h3 h4 => absurd h4 (h1 j o (List.getElem?_eq_some_iff.1 h3).1 h3)) x h2
  intro fuel
  induction fuel with
  | zero =>
    intro listed M w a hi he hrl hc
    have hall : ∀ i, i < ops.length → listed.getD i true = true := fun i hlt => by
      have := List.countP_eq_zero.1 (Nat.le_zero.1 hc) i (List.mem_range.2 hlt)
      simpa using this
    refine ⟨?_, fin _ _ _ _ hi he hrl hall⟩
    cases hr : Region.ready .any ops.toArray listed with
    | nil => rfl
    | cons i q =>
      obtain ⟨h1, o, ho, _⟩ := mem_ready.1 (hr ▸ List.mem_cons_self (a := i) (l := q))
      rw [hall i (by have := (Array.getElem?_eq_some_iff.1 ho).1; simpa using this)] at h1
      cases h1
  | succ fuel ih =>
    intro listed M w a hi he hrl hc
    refine ⟨fun hr => fin _ _ _ _ hi he hrl (ready_allL hg hi.size hr), fun i hri => ?_⟩
    obtain ⟨hun, o, ho, hedges⟩ := mem_ready.1 hri
    have ho : ops[i]? = some o := by simpa using ho
    have hin : i < ops.length := (List.getElem?_eq_some_iff.1 ho).1
    have his : i < listed.size := by rw [hi.size]; exact hin
    have hun' : listed.getD i false = false := by simpa [Array.getD, his] using hun
    have hanc : ∀ x, (anc0.getD i 0).testBit x = true → listed.getD x false = true := fun x hx => by
      obtain ⟨e, e1, e2, e3⟩ := hg.anc i o x ho hx
      have hl := hedges e (Array.mem_toList_iff.1 e1) e2
      have hlt := hg.lt i o ho e e1 e2
      rcases e3 with rfl | e3
      · exact hl
      · exact hi.closed _ (by omega) hl x e3
    -- what is behind it is not done
    have hnot : ∀ j, j < ops.length → (anc0.getD j 0).testBit i = true → listed.getD j false = false := fun j hj hx => by
      cases hl : listed.getD j false with
      | false => rfl
      | true => have := hi.closed j hj hl i hx; rw [hun'] at this; cases this
    have hfacts : ∀ t ∈ looks o (fun j => (ops[j]?).bind (·.dst)), ∀ x, lk (st i).tm t = some x → R M x (a.tmps.getD t undef) := fun t ht x hx => by
      rcases tm_at hst hg.uniq i (Nat.le_of_lt hin) t x hx with ⟨j, q, h1, h2, h3, rfl⟩ | ⟨h1, h2⟩
      · exact hi.done j q t h2 h3 (hanc j ((hg.looks i j o q t ho h2 (by omega) h3 ht).1 h1))
      · refine hi.old t (fun j q h3 h4 => ?_) x h2
        have hjl := (List.getElem?_eq_some_iff.1 h3).1
        rcases Nat.lt_trichotomy j i with hji | hji | hji
        · exact absurd h4 (h1 j q hji h3)
        · subst hji; exact hun'
        · exact hnot j hjl ((hg.looks i j o q t ho h3 (by omega) h4 ht).2 hji)
    have hcount : (List.range ops.length).countP (fun k => !(listed.setIfInBounds i true).getD k true) ≤ fuel := by
      have := countP_set ops.length hin his hun
      omega
    have hset := fun j => getD_set (j := j) his
    -- what holds behind it, whatever the heap is
    have next : ∀ (s1 s2 : S) (h1 : H), StepOK P rl n0 ops o s1 (val i) s2 → s1.n = (st i).n → RH M h1 w → (isBig o.op = true → h1 = s1.H) → (heapy o.op = true → HLe s1.H h1) → (∀ t ∈ looks o (fun j => (ops[j]?).bind (·.dst)), ∀ x, lk s1.tm t = some x → R M x (a.tmps.getD t undef)) →
        (∀ M' w', RH M' (bif isBig o.op then s2.H else h1) w' → (∃ p, p ≤ ops.length ∧ RH M' (st p).H w' ∧ ∀ (j : Nat) (o : Oper), ops[j]? = some o → isBig o.op = true → ((listed.setIfInBounds i true).getD j false = true ↔ j < p)) ∨
          (tl = true ∧ RH M' sB.H w' ∧ ∀ (j : Nat) (o : Oper), ops[j]? = some o → isBig o.op = true → ((listed.setIfInBounds i true).getD j false = true ↔ j + 2 ≠ ops.length))) →
        wpOpIn (WF r) 0 P ops.toArray Q i (wpAnyIn (WF r) 0 P .any ops.toArray Q fuel (listed.setIfInBounds i true)) a w := by
      intro s1 s2 h1 hs hn hh hheap hheap2 hf hnew
      unfold wpOpIn
      simp only [List.getElem?_toArray, ho]
      refine hs.run r M w a h1 hrl (Nat.le_trans hn0 he.size) hh hheap hheap2 (hi.sz.trans ((st_n hst i (Nat.le_of_lt hin)).1.symm.trans hn.symm)) hf _ Q fun M' w' v g1 g2 g3 g4 => ?_
      refine ih _ M' w' _ ⟨by simpa using hi.size, fun j hj hl x hx => ?_, hnew M' w' g1, fun j q t h1 h2 h3 => ?_, fun t hn x hx => ?_, by rw [put_size]; exact hi.sz, ?_, fun j x hx => (hi.ex j x hx).mono g3.le, fun j q t ty h1 h2 h3 h4 => ?_⟩ (he.trans g3.w) (hrl.mono g3.le) hcount
      · rw [hset] at hl ⊢
        split
        · rfl
        · split at hl
          · rename_i hij
            subst hij
            exact hanc x hx
          · exact hi.closed j hj hl x hx
      · rw [hset] at h3
        by_cases hij : i = j
        · subst hij
          rw [ho] at h1
          cases h1
          rw [h2]
          have hlt : t < a.tmps.size := by
            have := hs.room
            rw [h2] at this
            rw [hi.sz, ← (st_n hst i (Nat.le_of_lt hin)).1, ← hn]
            exact this
          rw [put_same hlt]
          exact g2
        · rw [if_neg hij] at h3
          rw [put_other (fun e => hij (hg.uniq i j o q t ho h1 e h2))]
          exact (hi.done j q t h1 h2 h3).mono g3.le
      · have hne : o.dst ≠ some t := fun e => by
          have := hn i o ho e
          rw [hset, if_pos rfl] at this
          cases this
        rw [put_other hne]
        refine (hi.old t (fun j q h1 h2 => ?_) x hx).mono g3.le
        have := hn j q h1 h2
        rw [hset] at this
        split at this
        · cases this
        · exact this
      · obtain ⟨bs, h1, h2, h3⟩ := hi.df
        exact ⟨bs, by rw [put_defers]; exact h1, h2, fun i l e => let ⟨b, q1, q2⟩ := h3 i l e; ⟨b, q1, q2.mono g3.le⟩⟩
      · rw [hset] at h4
        by_cases hij : i = j
        · subst hij
          rw [ho] at h1
          cases h1
          rw [h3]
          have hlt : t < a.tmps.size := by
            have := hs.room
            rw [h3] at this
            rw [hi.sz, ← (st_n hst i (Nat.le_of_lt hin)).1, ← hn]
            exact this
          rw [put_same hlt]
          exact g4 ty h2
        · rw [if_neg hij] at h4
          rw [put_other (fun e => hij (hg.uniq i j o q t ho h1 e h3))]
          exact (hi.late j q t ty h1 h2 h3 h4).ext g3
    have hs := hst i o ho
    have hbh : isBig o.op = true → heapy o.op = true := fun hbig => by
      revert hbig
      cases o.op <;> simp [isBig, heapy]
    rcases hi.heap with ⟨p, hp, hh, hb⟩ | ⟨ht, hh, hb⟩
    · by_cases htail : tl = true ∧ i + 1 = ops.length ∧ ∃ (j : Nat) (q : Oper), ops[j]? = some q ∧ j + 2 = ops.length ∧ listed.getD j false = false
      · -- the last store is done ahead of the one before it
        obtain ⟨ht, hil, j0, q0, hj0, hj1, hj2⟩ := htail
        have hT := htl ht
        have hbi := hT.big i o ho (.inr hil)
        have hhy := hbh hbi
        have hp2 : p ≤ ops.length - 2 := by
          have := (hb j0 q0 hj0 (hT.big _ _ hj0 (.inl hj1)))
          rw [hj2] at this
          simp at this
          omega
        have hothers : ∀ (j : Nat) (q : Oper), ops[j]? = some q → isBig q.op = true → j + 2 ≠ ops.length → j ≠ i → listed.getD j false = true := fun j q h1 h2 h3 h4 => by
          have hjl := (List.getElem?_eq_some_iff.1 h1).1
          refine hanc j ((hg.big i j o q ho h1 (fun e => h4 e.symm) ?_ hhy h2).1 (by omega))
          simp [inTail, ht, hbi]
          omega
        have hheap : (st p).H = (st (ops.length - 2)).H := heap_eq hst hp (by omega) fun j q h1 h2 => by
          have hjl := (List.getElem?_eq_some_iff.1 h1).1
          constructor
          · intro h; omega
          · intro h
            exact (hb j q h1 h2).1 (hothers j q h1 h2 (by omega) (by omega))
        refine next (st (ops.length - 2)) sB (st p).H (hT.fst i o ho hil) (by rw [(st_n hst (ops.length - 2) (by omega)).1, (st_n hst i (by omega)).1]) hh (fun _ => hheap) (fun _ => by rw [hheap]; exact HLe.refl _) (fun t htl x hx => ?_) fun M' w' g1 => .inr ⟨ht, by rw [hbi] at g1; exact g1, fun j q h1 h2 => ?_⟩
        · -- what is known ahead of the store before it is known here
          rcases tm_at hst hg.uniq (ops.length - 2) (by omega) t x hx with ⟨j, q, h1, h2, h3, rfl⟩ | ⟨h1, h2⟩
          · exact hi.done j q t h2 h3 (hanc j ((hg.looks i j o q t ho h2 (by omega) h3 htl).1 (by omega)))
          · refine hi.old t (fun j q h3 h4 => ?_) x h2
            have hjl := (List.getElem?_eq_some_iff.1 h3).1
            by_cases hj : j < ops.length - 2
            · exact absurd h4 (h1 j q hj h3)
            · by_cases hji : j = i
              · subst hji; exact hun'
              · rw [show j = j0 by omega]; exact hj2
        · rw [hset]
          by_cases hji : i = j
          · subst hji; simp; omega
          · rw [if_neg hji]
            by_cases hj : j + 2 = ops.length
            · have hjj : j = j0 := by omega
              subst hjj
              rw [hj2]
              simp [hj]
            · rw [hothers j q h1 h2 hj (fun e => hji e.symm)]
              simp [hj]
      · have hside : isBig o.op = true → ∀ (j : Nat) (q : Oper), ops[j]? = some q → isBig q.op = true → i ≠ j → (listed.getD j false = true ↔ j < i) := fun hbo j q h1 h2 hij => by
          have hhy := hbh hbo
          have hjl := (List.getElem?_eq_some_iff.1 h1).1
          cases hex : (tl && inTail ops.length i j) with
          | false =>
            have hex2 : ((tl && inTail ops.length i j) || (!isBig o.op && (isAl q.op && Nat.blt i j))) = false := by rw [hex, hbo]; rfl
            rcases Nat.lt_trichotomy j i with hji | hji | hji
            · exact ⟨fun _ => hji, fun _ => hanc j ((hg.big i j o q ho h1 hij hex2 hhy h2).1 hji)⟩
            · exact absurd hji.symm hij
            · rw [hnot j hjl ((hg.big i j o q ho h1 hij hex2 hhy h2).2 hji)]; simp; omega
          | true =>
            simp only [Bool.and_eq_true, inTail, Bool.or_eq_true] at hex
            obtain ⟨ht, hex⟩ := hex
            have hex : (i + 2 = ops.length ∧ j + 1 = ops.length) ∨ (j + 2 = ops.length ∧ i + 1 = ops.length) := hex.imp (fun q => ⟨Nat.eq_of_beq_eq_true q.1, Nat.eq_of_beq_eq_true q.2⟩) (fun q => ⟨Nat.eq_of_beq_eq_true q.1, Nat.eq_of_beq_eq_true q.2⟩)
            rcases hex with ⟨h3, h4⟩ | ⟨h3, h4⟩
            · -- the store before the last one; the last one is not done
              have hbi := (htl ht).big i o ho (.inl h3)
              have := hb i o ho hbi
              rw [hun'] at this
              simp at this
              have h5 := hb j q h1 h2
              constructor
              · intro h; have := h5.1 h; omega
              · intro h; omega
            · -- the last one
              constructor
              · intro _; omega
              · intro _
                cases hl : listed.getD j false with
                | true => rfl
                | false => exact absurd ⟨ht, h4, j, q, h1, h3, hl⟩ htail
        have hheap : isBig o.op = true → (st p).H = (st i).H := fun hbo => heap_eq hst hp (Nat.le_of_lt hin) fun j q h1 h2 => by
          rw [← hb j q h1 h2]
          by_cases hij : i = j
          · subst hij; rw [hun']; simp
          · exact hside hbo j q h1 h2 hij
        have hheap2 : heapy o.op = true → HLe (st i).H (st p).H := fun hhy => by
          cases hbo : isBig o.op with
          | true => rw [hheap hbo]; exact HLe.refl _
          | false =>
            -- one that looks at memory: what is new may be there already
            have hne : ∀ (j : Nat) (q : Oper), ops[j]? = some q → isBig q.op = true → i ≠ j := fun j q h1 h2 e => by
              subst e; rw [ho] at h1; cases h1; rw [hbo] at h2; cases h2
            have htl0 : ∀ (j : Nat) (q : Oper), ops[j]? = some q → isBig q.op = true → (tl && inTail ops.length i j) = false := fun j q h1 h2 => by
              cases hex : (tl && inTail ops.length i j) with
              | false => rfl
              | true =>
                exfalso
                simp only [Bool.and_eq_true, inTail, Bool.or_eq_true] at hex
                obtain ⟨ht, hex⟩ := hex
                have hi2 : i + 2 = ops.length ∨ i + 1 = ops.length := hex.elim (fun q => .inl (Nat.eq_of_beq_eq_true q.1)) (fun q => .inr (Nat.eq_of_beq_eq_true q.2))
                have := (htl ht).big i o ho hi2
                rw [hbo] at this; cases this
            have hlow : ∀ (j : Nat) (q : Oper), ops[j]? = some q → isBig q.op = true → j < i → j < p := fun j q h1 h2 hji => by
              refine (hb j q h1 h2).1 (hanc j ((hg.big i j o q ho h1 (hne j q h1 h2) ?_ hhy h2).1 hji))
              rw [htl0 j q h1 h2, hbo]
              have : Nat.blt i j = false := by
                cases hb : Nat.blt i j with
                | false => rfl
                | true => rw [Nat.blt_eq] at hb; omega
              simp [this]
              try (intro _; omega)
            have hhigh : ∀ (j : Nat) (q : Oper), ops[j]? = some q → isBig q.op = true → i ≤ j → j < p → isAl q.op = true := fun j q h1 h2 hij hjp => by
              cases hal : isAl q.op with
              | true => rfl
              | false =>
                have hij : i < j := by have := hne j q h1 h2; omega
                have hl := (hb j q h1 h2).2 hjp
                have := (hg.big i j o q ho h1 (by omega) (by rw [htl0 j q h1 h2, hal]; simp) hhy h2).2 hij
                rw [hnot j (List.getElem?_eq_some_iff.1 h1).1 this] at hl
                cases hl
            by_cases hip : i ≤ p
            · obtain ⟨m, rfl⟩ := Nat.exists_eq_add_of_le hip
              exact heap_grow hst m i hp fun j q h1 h2 h3 h4 => hhigh j q h1 h4 h2 h3
            · rw [heap_eq hst hp (Nat.le_of_lt hin) (p := p) (q := i) fun j q h1 h2 => ⟨fun h => by omega, fun h => hlow j q h1 h2 h⟩]
              exact HLe.refl _
        refine next (st i) (st (i + 1)) (st p).H hs rfl hh hheap hheap2 hfacts fun M' w' g1 => .inl ?_
        cases hbig : isBig o.op with
        | false =>
          rw [hbig] at g1
          refine ⟨p, hp, g1, fun j q h1 h2 => ?_⟩
          rw [hset, if_neg (fun e => by subst e; rw [ho] at h1; cases h1; rw [hbig] at h2; cases h2)]
          exact hb j q h1 h2
        | true =>
          rw [hbig] at g1
          refine ⟨i + 1, hin, g1, fun j q h1 h2 => ?_⟩
          rw [hset]
          by_cases hij : i = j
          · subst hij; simp
          · rw [if_neg hij, hside hbig j q h1 h2 hij]; omega
    · -- the last store is done, the one before it is not
      have hT := htl ht
      by_cases hbig : isBig o.op = true
      · have hi2 : i + 2 = ops.length := by
          have := hb i o ho hbig
          rw [hun'] at this
          simp at this
          exact this
        obtain ⟨sE, hE, hE1, hE2⟩ := hT.snd i o ho hi2
        refine next sB sE sB.H hE ?_ hh (fun _ => rfl) (fun _ => HLe.refl _) (fun t htl x hx => ?_) fun M' w' g1 => .inl ⟨ops.length, Nat.le_refl _, ?_, fun j q h1 h2 => ?_⟩
        · have ho1 : ops[ops.length - 1]? = some ops[ops.length - 1] := List.getElem?_eq_getElem (by omega)
          rw [(hT.fst _ _ ho1 (by omega)).n, (st_n hst (ops.length - 2) (by omega)).1, (st_n hst i (by omega)).1]
        · have ho1 : ops[ops.length - 1]? = some ops[ops.length - 1] := List.getElem?_eq_getElem (by omega)
          have hf := hT.fst _ _ ho1 (by omega)
          rw [hf.tm] at hx
          have hii : ops.length - 2 = i := by omega
          rw [hii] at hx
          cases hd : (ops[ops.length - 1]).dst with
          | none => rw [hd] at hx; exact hfacts t htl x hx
          | some u =>
            rw [hd] at hx
            simp only [S.put, lk_up] at hx
            by_cases hut : u = t
            · subst hut
              rw [if_pos rfl] at hx
              cases hx
              refine hi.done _ _ u ho1 hd ?_
              exact (hb _ _ ho1 (hT.big _ _ ho1 (.inr (by omega)))).2 (by omega)
            · rw [if_neg hut] at hx
              exact hfacts t htl x hx
        · rw [hbig] at g1
          exact g1.same (fun l => hE1 l) hE2
        · rw [hset]
          have hjl := (List.getElem?_eq_some_iff.1 h1).1
          by_cases hij : i = j
          · subst hij; simp [hjl]
          · rw [if_neg hij, hb j q h1 h2]
            simp [hjl]; omega
      · have hbig : isBig o.op = false := by simpa using hbig
        have hnh : heapy o.op = true → False := fun hhy => by
          have ho1 : ops[ops.length - 1]? = some ops[ops.length - 1] := List.getElem?_eq_getElem (by have := hT.two; omega)
          have hb1 := hT.big _ _ ho1 (.inr (by have := hT.two; omega))
          have hl1 := (hb _ _ ho1 hb1).2 (by have := hT.two; omega)
          have hne : i ≠ ops.length - 1 := fun e => by rw [e] at ho; rw [ho1] at ho; cases ho; rw [hb1] at hbig; cases hbig
          have hne2 : i + 2 ≠ ops.length := fun e => by rw [hT.big i o ho (.inl e)] at hbig; cases hbig
          have hal1 : isAl (ops[ops.length - 1]).op = false := hT.nal _ _ ho1 (by have := hT.two; omega)
          have := (hg.big i (ops.length - 1) o _ ho ho1 hne (by simp [inTail, hal1]; intro _; omega) hhy hb1).2 (by omega)
          rw [hnot _ (by omega) this] at hl1
          cases hl1
        refine next (st i) (st (i + 1)) sB.H hs rfl hh (fun q => (hnh (hbh q)).elim) (fun q => (hnh q).elim) hfacts fun M' w' g1 => .inr ⟨ht, by rw [hbig] at g1; exact g1, fun j q h1 h2 => ?_⟩
        rw [hset, if_neg (fun e => by subst e; rw [ho] at h1; cases h1; rw [hbig] at h2; cases h2)]
        exact hb j q h1 h2
end Go.Ev.Bl

/-
  Regions that draw their order, with one new variable that stands nowhere in the order: how they are reckoned.
-/
namespace Go.Ev.Bl
open Go.Ev
open Go.Aw (WF enters tiOf)

theorem of_bq {P : Program} {rl : Option Nat} {n0 : Nat} {ops : List Oper} {o : Oper} {s s' : S} {d : D} (hna : ∀ ty, o.op ≠ .alloc ty) (h : Bq.StepOK P rl ops o s d s') : StepOK P rl n0 ops o s d s' := by
  by_cases hv : ∃ c f, o.op = .call c ∧ c.callee = .value f
  · obtain ⟨c, f, hop, hc⟩ := hv
    have b1 : isBig o.op = true := by rw [hop]; simp only [isBig, hc]
    have b2 : Bq.isBig o.op = false := by rw [hop]; simp only [Bq.isBig, hc]
    have b3 : Bq.heapy o.op = false := by rw [hop]; simp only [Bq.heapy, Bq.isBig, hc]
    refine ⟨h.n, h.df, h.g, h.ex, h.room, h.tm, fun e => by (rw [b1] at e; cases e), fun e => by (rw [hop] at e; simp [isAl] at e), fun r M w a hh h1 _ h2 h3 h4 h5 h6 next Q hnx => ?_⟩
    have hh1 := h3 b1
    subst hh1
    refine h.run r M w a _ h1 h2 (fun e => by simp [b2] at e) (fun e => by simp [b3] at e) h5 h6 next Q fun M' w' v g1 g2 g3 => hnx M' w' v ?_ g2 g3 fun ty e => absurd e (hna ty)
    rw [b1]
    rw [b2] at g1
    rw [cond_true, h.heap b2]
    exact g1
  have hnv : ∀ c f, o.op = .call c → c.callee ≠ .value f := fun c f e1 e2 => hv ⟨c, f, e1, e2⟩
  have hcall : ∀ c, o.op = .call c → isBig (.call c) = Bq.isBig (.call c) := fun c e => by
    have := hnv c
    simp only [isBig, Bq.isBig]
    cases hc : c.callee <;> first | rfl | exact absurd hc (this _ e) | (rename_i b; cases b <;> rfl)
  have hb : isBig o.op = Bq.isBig o.op := by
    revert hna hcall
    cases o.op <;> intro hna hcall <;> first | rfl | exact absurd rfl (hna _) | exact hcall _ rfl
  have hy : heapy o.op = Bq.heapy o.op := by
    revert hna hcall
    cases o.op <;> intro hna hcall <;> first | rfl | exact absurd rfl (hna _) | exact hcall _ rfl
  have hal : isAl o.op = Bq.isAl o.op := by revert hna; cases o.op <;> intro hna <;> first | rfl | exact absurd rfl (hna _)
  refine ⟨h.n, h.df, h.g, h.ex, h.room, h.tm, fun e => h.heap (by rw [← hb]; exact e), fun e => h.grow (by rw [← hal]; exact e), fun r M w a hh h1 _ h2 h3 h4 h5 h6 next Q hnx => ?_⟩
  rw [hb] at hnx h3
  rw [hy] at h4
  exact h.run r M w a hh h1 h2 h3 h4 h5 h6 next Q fun M' w' v g1 g2 g3 => hnx M' w' v g1 g2 g3 fun ty e => absurd e (hna ty)

/-- A new variable; its block has no name. -/
theorem step_alloc {P : Program} {rl : Option Nat} {n0 : Nat} {ops : List Oper} {o : Oper} {s : S} {ty : TypeId} {ti : Aw.TI} (hop : o.op = .alloc ty) (hti : tiOf P ty = some ti)
    (hw : ∀ (M : Mem) (a : Act), (∀ t ∈ looks o (fun j => (ops[j]?).bind (·.dst)), ∀ x, lk s.tm t = some x → R M x (a.tmps.getD t undef)) → Region.wanted o (yielded ops.toArray a.tmps) = true) (hro : s.room o.dst) : StepOK P rl n0 ops o s (.any) (s.put o.dst .any) := by
  refine ⟨by cases o.dst <;> rfl, by cases o.dst <;> rfl, by cases o.dst <;> rfl, by cases o.dst <;> rfl, hro, rfl, fun _ => by cases o.dst <;> rfl, fun e => by rw [hop] at e; simp [isAl] at e, fun r M w a hh hrl hn0 hr _ _ _ hf next Q hn => ?_⟩
  rw [if_pos (hw M a hf)]
  rw [show isBig o.op = false by rw [hop]; rfl] at hn
  refine ⟨fun _ _ => trivial, ?_⟩
  rw [semAt_exec (by rw [hop]; simp)]
  obtain ⟨it, dt, zt, ht⟩ := Go.Aw.tiOf_spec hti
  obtain ⟨z1, z2⟩ := zeros_get ht M
  have hrun : (Instr.alloc ty true (.tuple #[])).run P w = .ok (.pointer (some ⟨w.heap.size, 0, none⟩)) (w.alloc (.cells zt.cells ty)) := by
    obtain ⟨M', g1, _⟩ := new_cells (P := P) hr ty zt.cells (ti.z.map zD) z1 z2
    simp [Instr.alloc, zeroValue, typeInfo, ht.info, ht.zero, newVar, g1]
  have hfr : ∀ b, b < w.heap.size → (w.alloc (.cells zt.cells ty)).heap[b]? = w.heap[b]? := fun b hb => Go.Aw.halloc_old w _ b hb
  have hlate : Late P n0 ty M (w.alloc (.cells zt.cells ty)) (.pointer (some ⟨w.heap.size, 0, none⟩)) := fun ti' hti' => by
    rw [hti] at hti'
    cases hti'
    refine ⟨_, zt.cells, rfl, hn0, fun l c e => ?_, fun q e => ?_, Go.Aw.halloc_new w _, z1, fun M' j x hx => (zeros_get ht M').2 j x hx⟩
    · have := hr.inv.lt l _ c e; omega
    · obtain ⟨ty', fr, e2⟩ := hr.inv.fz _ q e
      have := (Array.getElem?_eq_some_iff.1 e2).1
      omega
  have hext : Ext M w M (w.alloc (.cells zt.cells ty)) := ⟨rfl, rfl, rfl, by simp, fun b hb _ => hfr b hb, fun l b c e => .inl ⟨l, c, e⟩, Nat.le_refl _, fun _ _ => .inl rfl, fun _ _ h => h, fun _ _ h => .inl h, fun _ _ h => h⟩
  have hRH : RH M hh (w.alloc (.cells zt.cells ty)) := ⟨⟨hr.inv.inj, fun l b c e => by have := hr.inv.lt l b c e; simp; omega, hr.inv.nx, fun b q e => by
    obtain ⟨ty', fr, e2⟩ := hr.inv.fz b q e
    exact ⟨ty', fr, (hfr b (Array.getElem?_eq_some_iff.1 e2).1).trans e2⟩, hr.inv.sep⟩, fun l k e => (hr.hp l k e).mono (.refl M) (fun b c e2 => hfr b (hr.inv.lt l b c e2)), hr.nx⟩
  have hex : (execOp a.eval o).run P w = .ok (.value (.pointer (some ⟨w.heap.size, 0, none⟩))) (w.alloc (.cells zt.cells ty)) := by
    simp only [execOp, hop, Sem.run_bind, hrun, Result.andThen_ok, Sem.run_pure]
  rw [hex]
  exact hn M _ _ hRH (.any _) hext fun ty' e => by rw [hop] at e; cases e; exact hlate

/-- The block has a name from here on. -/
theorem adopt_ok {P : Program} {zs : Nat → Value} {M0 M : Mem} {w0 w : World} {s : S} {a : Act} {t : Tmp} {ty : TypeId} {ti : Aw.TI} (hr : SRep zs M s w a) (hl : Late P w0.heap.size ty M w (a.tmps.getD t undef)) (hti : tiOf P ty = some ti) (he : ExtW M0 w0 M w) :
    ∃ M2, SRep zs M2 (S.mk s.n (up s.tm t (.pt s.nx 0)) (up s.hp s.nx (.cells ty none (ti.z.map zD))) (s.nx + 1) s.df s.g s.ex) w a ∧ ExtW M0 w0 M2 w ∧ M.le M2 := by
  obtain ⟨b, cur, h1, h2, h3, h4, h5, h6, h7⟩ := hl ti hti
  have hlt := (Array.getElem?_eq_some_iff.1 h5).1
  have hnx : M.nx = s.nx := hr.h.nx.symm
  have hle : M.le (M.set s.nx (.blk b 0) (s.nx + 1)) := ⟨by simp [Mem.set, hnx], fun l hl => by
    left
    have : l ≠ s.nx := by omega
    simp [Mem.set, this], fun _ _ h => h⟩
  have old : ∀ l b' c, (M.set s.nx (.blk b 0) (s.nx + 1)).μ l = .blk b' c → (l = s.nx ∧ b' = b) ∨ (l ≠ s.nx ∧ M.μ l = .blk b' c) := fun l b' c e => by
    simp only [Mem.set] at e
    split at e
    · rename_i h; cases e; exact .inl ⟨h, rfl⟩
    · rename_i h; exact .inr ⟨h, e⟩
  refine ⟨M.set s.nx (.blk b 0) (s.nx + 1), ⟨⟨⟨fun l l' b' c c' e e' => ?_, fun l b' c e => ?_, fun l b' c e => ?_, fun b' q e => hr.h.inv.fz b' q e, fun b' q e l k e' => ?_⟩, fun l k e => ?_, rfl⟩, hr.sz, fun u d e => ?_, ?_, fun i d e => (hr.ex i d e).mono hle⟩, ⟨he.os, he.tape, he.output, he.size, he.keep, fun l b' c e => ?_, he.fz, he.fznew⟩, hle⟩
  · rcases old l b' c e with ⟨x1, x2⟩ | ⟨x1, x2⟩ <;> rcases old l' b' c' e' with ⟨y1, y2⟩ | ⟨y1, y2⟩
    · rw [x1, y1]
    · exact absurd (x2 ▸ y2) (h3 _ _)
    · exact absurd (y2 ▸ x2) (h3 _ _)
    · exact hr.h.inv.inj l l' b' c c' x2 y2
  · rcases old l b' c e with ⟨_, rfl⟩ | ⟨_, x⟩
    · exact hlt
    · exact hr.h.inv.lt l b' c x
  · rcases old l b' c e with ⟨rfl, _⟩ | ⟨_, x⟩
    · simp [Mem.set]
    · have := hr.h.inv.nx l b' c x; simp only [Mem.set]; omega
  · have e : M.fz b' = some q := e
    rcases old l b' k e' with ⟨_, rfl⟩ | ⟨_, x⟩
    · exact h4 q e
    · exact hr.h.inv.sep b' q e l k x
  · have e : lk (up s.hp s.nx (.cells ty none (ti.z.map zD))) l = some k := by rw [← get_toT]; exact e
    rw [lk_up] at e
    by_cases hk : s.nx = l
    · subst hk
      rw [if_pos rfl] at e
      cases e
      simp only [Mem.set, if_true]
      exact ⟨cur, h5, h6, fun j x hx => h7 _ j x hx⟩
    · rw [if_neg hk] at e
      have := (hr.h.hp l k (by show (toT s.hp).get l = _; rw [get_toT]; exact e)).mono hle (w' := w) (fun _ _ _ => rfl)
      rw [show (M.set s.nx (.blk b 0) (s.nx + 1)).μ l = M.μ l by simp only [Mem.set]; rw [if_neg (fun q => hk q.symm)]]
      exact this
  · simp only [lk_up] at e
    by_cases hk : t = u
    · subst hk
      rw [if_pos rfl] at e
      cases e
      rw [h1]
      exact .pt _ _ _ ⟨by simp [Mem.set], fun b' c' e => by simp [Mem.set] at e; exact e.1.symm, by simp [Mem.set]⟩
    · rw [if_neg hk] at e
      exact (hr.t u d e).mono hle
  · obtain ⟨bs, k1, k2, k3⟩ := hr.df
    exact ⟨bs, k1, k2, fun i l e => let ⟨b, a1, a2⟩ := k3 i l e; ⟨b, a1, a2.mono hle⟩⟩
  · rcases old l b' c e with ⟨_, rfl⟩ | ⟨_, x⟩
    · exact .inr h2
    · exact he.new l b' c x

theorem frzE_ok {hp : List (Nat × Blk)} {nx l n sz : Nat} {ty : TypeId} {op : Option Nat} {rows : List (List D)} (x : D) (hx : (x = .ow l n ∧ 0 < n) ∨ ∃ cap, x = .sl l 0 n cap) (hl : lk hp l = some (.cells ty op rows.flatten)) (hn : rows.length = n) (hz : ∀ r, r ∈ rows → r.length = sz)
    {M : Mem} {w : World} (hr : RH M { hp := toT hp, nx := nx } w) {v : Value} (hv : R M x v) :
    ∃ M', RH M' { hp := toT (ldel hp l), nx := nx } w ∧ Ext M w M' w ∧ R M' (.sq false sz rows) v := by
  have hb := hr.hp l (.cells ty op rows.flatten) (by show (toT hp).get l = _; rw [get_toT]; exact hl)
  obtain ⟨b, k, rfl, hnk, hkm, hat⟩ : ∃ b k, v = .slice (some ⟨b, 0, none⟩) n k ∧ n ≤ k ∧ k ≤ maxLen ∧ M.at l b := by
    rcases hx with ⟨rfl, hpos⟩ | ⟨cap, rfl⟩
    · cases hv with
      | ow _ _ _ h =>
        obtain ⟨a0, k, rfl, q2, q3, q4, q5, q6⟩ := h.val
        obtain ⟨b, rfl⟩ := q4 hpos
        exact ⟨b, k, rfl, q2, q3, h.lt, fun b' c' e => by
          have := (q5 b' c' e).1
          injection this with this
          injection this with this
          exact this.symm, fun e => by have := (q6 e).1; omega, h.nres⟩
    · cases hv with
      | sl _ _ _ _ b k ha hk h0 hn' hm => exact ⟨b, k, rfl, hn', hm, ha⟩
  have key : ∀ p, M.μ l = p → RK M w (.cells ty op rows.flatten) p → ∃ c cur, M.μ l = .blk b c ∧ w.heap[b]? = some (.cells cur ty (0, 0)) ∧ rows.flatten.length ≤ cur.size ∧ ∀ (i : Nat) d, rows.flatten[i]? = some d → (cur.getD i undef).oneCell' = true ∧ R M d (cur.getD i undef) := fun p hp hk => by
    cases p with
    | dead => exact hk.elim
    | nil => exact absurd hp hat.2.2.1
    | res => exact absurd hp hat.2.2.2
    | blk b' c =>
      have := hat.2.1 b' c hp
      subst this
      obtain ⟨cur, h1, h2, h3⟩ := hk
      refine ⟨c, cur, hp, h1, ?_, h3⟩
      cases op with
      | none => simp only at h2; omega
      | some q => exact h2.1
  obtain ⟨c, cur, hμ, hc1, hc2, hc5⟩ := key _ rfl hb
  have hfz : ∀ b' q, M.fz b' = some q → (if b' = b then some cur else M.fz b') = some q := fun b' q e => by
    rw [if_neg (fun h => hr.inv.sep b' q e l c (by rw [h]; exact hμ))]
    exact e
  have hle : M.le { μ := fun k => if k = l then .dead else M.μ k, nx := M.nx, fz := fun x => if x = b then some cur else M.fz x } := ⟨Nat.le_refl _, fun m _ => by
    by_cases hm : m = l
    · exact .inr (.inl (if_pos hm))
    · exact .inl (if_neg hm), hfz⟩
  have hold : ∀ m b' k, (if m = l then Place.dead else M.μ m) = .blk b' k → m ≠ l ∧ M.μ m = .blk b' k := fun m b' k e => by
    by_cases hm : m = l
    · simp [hm] at e
    · simp only [if_neg hm] at e; exact ⟨hm, e⟩
  refine ⟨{ μ := fun k => if k = l then .dead else M.μ k, nx := M.nx, fz := fun x => if x = b then some cur else M.fz x }, ⟨⟨fun m m' b' k k' e e' => ?_, fun m b' k e => ?_, fun m b' k e => ?_, fun b' q e => ?_, fun b' q e m k e' => ?_⟩, fun m k e => ?_, hr.nx⟩, ⟨rfl, rfl, rfl, Nat.le_refl _, fun _ _ _ => rfl, fun m b' k e => .inl ⟨m, k, (hold m b' k e).2⟩, Nat.le_refl _, fun m _ => ?_, hfz, fun b' q e => ?_, fun m _ e => ?_⟩, ?_⟩
  · exact hr.inv.inj m m' b' k k' (hold m b' k e).2 (hold m' b' k' e').2
  · exact hr.inv.lt m b' k (hold m b' k e).2
  · exact hr.inv.nx m b' k (hold m b' k e).2
  · by_cases hb' : b' = b
    · subst hb'
      simp at e
      subst e
      exact ⟨_, _, hc1⟩
    · simp only [if_neg hb'] at e
      exact hr.inv.fz b' q e
  · obtain ⟨h1, h2⟩ := hold m b' k e'
    by_cases hb' : b' = b
    · subst hb'
      exact h1 (hr.inv.inj _ _ _ _ _ h2 hμ)
    · simp only [if_neg hb'] at e
      exact hr.inv.sep b' q e m k h2
  · have e : lk (ldel hp l) m = some k := by rw [← get_toT]; exact e
    rw [lk_ldel] at e
    by_cases hm : l = m
    · rw [if_pos hm] at e; cases e
    rw [if_neg hm] at e
    have hk := hr.hp m k (by show (toT hp).get m = _; rw [get_toT]; exact e)
    show RK _ w k (if m = l then Place.dead else M.μ m)
    rw [if_neg (fun q => hm q.symm)]
    exact hk.mono hle (fun _ _ _ => rfl)
  · by_cases hm : m = l
    · exact .inr (if_pos hm)
    · exact .inl (if_neg hm)
  · by_cases hb' : b' = b
    · subst hb'; exact .inr (.inl ⟨l, c, hμ⟩)
    · simp only [if_neg hb'] at e; exact .inl e
  · show (if m = l then Place.dead else M.μ m) = .res
    have : m ≠ l := fun q => by subst q; rw [hμ] at e; cases e
    rw [if_neg this]
    exact e
  · have hcell : ∀ (i : Nat) r (j : Nat) x, rows[i]? = some r → r[j]? = some x → rows.flatten[i * sz + j]? = some x := fun i r j x h4 h5 => flat_at rows hz i j r x h4 h5
    rw [← hn]
    refine .sq false sz rows b 0 k cur (fun i j => cur.getD (i * sz + j) undef) (if_pos rfl) (by omega) hkm (fun e => by cases e) hz (fun i r j x h4 h5 => ?_) (fun i r j x h4 h5 => R.mono hle (hc5 _ _ (hcell i r j x h4 h5)).2)
    have hlt : i * sz + j < cur.size := by
      have := (List.getElem?_eq_some_iff.1 (hcell i r j x h4 h5)).1
      omega
    exact ⟨by rw [Nat.zero_add]; simp [Array.getD, hlt], (hc5 _ _ (hcell i r j x h4 h5)).1⟩

/-- A pure function is called with a slice of one's own. -/
def FrzS (P : Program) (o : Oper) (s : S) (K : D → Nat → Prop) : Prop :=
  ∃ (c : Call) (f : Operand) (gg : FuncId) (l n sz : Nat) (ty : TypeId) (op : Option Nat) (rows : List (List D)) (x d : D) (pre post : List D), o.op = .call c ∧ c.callee = .value f ∧ s.uv f = .fn (.func gg) [] [] ∧ c.args.toList.map s.uv = pre ++ x :: post ∧ ((x = .ow l n ∧ 0 < n) ∨ ∃ cap, x = .sl l 0 n cap) ∧
    lk s.hp l = some (.cells ty op rows.flatten) ∧ rows.length = n ∧ (∀ r, r ∈ rows → r.length = sz) ∧ FnO P gg (pre ++ .sq false sz rows :: post) (.ret d) ∧ D.belL 0 (pre ++ .sq false sz rows :: post) = true ∧ D.bel 0 d = true ∧ strictO s.val o.op.operands.toList ∧ s.room o.dst ∧ K d l
theorem step_frz {P : Program} {rl : Option Nat} {n0 : Nat} {ops : List Oper} {o : Oper} {s : S} {K : D → Nat → Prop}
    (hw : ∀ (M : Mem) (a : Act), (∀ t ∈ looks o (fun j => (ops[j]?).bind (·.dst)), ∀ x, lk s.tm t = some x → R M x (a.tmps.getD t undef)) → Region.wanted o (yielded ops.toArray a.tmps) = true) (h : FrzS P o s K) :
    ∃ d l, StepOK P rl n0 ops o s d ({ s with hp := ldel s.hp l }.put o.dst d) ∧ K d l := by
  obtain ⟨c, f, gg, l, n, sz, ty, op, rows, x, d, pre, post, hop, hc, hfv, hargs, hx, hl, hn, hz, hO, hb, hbd, hso, hro, hK⟩ := h
  refine ⟨d, l, ⟨by cases o.dst <;> rfl, by cases o.dst <;> rfl, by cases o.dst <;> rfl, by cases o.dst <;> rfl, hro, by cases o.dst <;> rfl, fun e => by rw [hop] at e; simp [isBig, hc] at e, fun e => by rw [hop] at e; simp [isAl] at e, fun r M w a hh hrl hn0 hr hbig _ _ hf next Q hnx => ?_⟩, hK⟩
  have hbg : isBig o.op = true := by rw [hop]; simp only [isBig, hc]
  have hhs := hbig hbg
  subst hhs
  rw [if_pos (hw M a hf)]
  have hu := uv_facts hf hso
  rw [hop] at hu
  have hfn := hu f (by simp only [Op.operands, Call.operands, hc]; simp)
  have hav : argsOk M (pre ++ x :: post) (c.args.map a.eval) := by
    rw [← hargs]
    exact ⟨by simp, fun i d hi => by
      simp only [List.getElem?_map, Array.getElem?_toList, Option.map_eq_some_iff] at hi
      obtain ⟨y, hyi, rfl⟩ := hi
      rw [show (c.args.map a.eval).getD i undef = a.eval y by simp [Array.getD_eq_getD_getElem?, hyi]]
      exact hu y (by simp only [Op.operands, Call.operands, hc]; simp [Array.mem_of_getElem? hyi])⟩
  obtain ⟨M1, g1, g2, g3⟩ := frzE_ok x hx hl hn hz hr (hav.2 pre.length x (by simp))
  have hav1 : argsOk M1 (pre ++ .sq false sz rows :: post) (c.args.map a.eval) := ⟨by rw [hav.1]; simp, fun i d' hi => by
    by_cases h1 : i < pre.length
    · rw [List.getElem?_append_left h1] at hi
      exact (hav.2 i d' (by rw [List.getElem?_append_left h1]; exact hi)).mono g2.le
    · rw [List.getElem?_append_right (by omega)] at hi
      by_cases h2 : i = pre.length
      · subst h2
        simp at hi
        subst hi
        exact g3
      · have h3 : i - pre.length = (i - pre.length - 1) + 1 := by omega
        rw [h3, List.getElem?_cons_succ] at hi
        exact (hav.2 i d' (by rw [List.getElem?_append_right (by omega), h3, List.getElem?_cons_succ]; exact hi)).mono g2.le⟩
  rw [hfv] at hfn
  refine fn_run (f := .fn (.func gg) [] []) (d := d) (args := pre ++ .sq false sz rows :: post) ⟨by simpa using hO, by simpa using hb, hbd⟩ hop hc g1 (hfn.mono g2.le) hav1 next Q fun M' w' v k1 k2 k3 => hnx M' w' v ?_ k2 (g2.trans k3) fun ty e => by rw [hop] at e; cases e
  rw [hbg, cond_true]
  cases o.dst <;> exact k1

def isFrz (s : S) : Op → Bool
  | .call c => (match c.callee with
    | .value _ => c.args.toList.any fun y => (match s.uv y with
      | .ow _ _ => true
      | .sl _ _ _ _ => true
      | _ => false)
    | _ => false)
  | _ => false
def isAllocB : Op → Bool
  | .alloc _ => true
  | _ => false
def alK (P : Program) (o : Oper) (s : S) (K : D → Prop) : Prop :=
  match o.op with
  | .alloc t => (tiOf P t).isSome = true ∧ (s.room o.dst ∧ K .any)
  | _ => False
def drawL (z : Bool) (P : Program) (tb : Tb) : List (Option Tmp) → List Oper → S → (S → Prop) → Prop
  | _, [], s, K => K s
  | h, o :: rest, s, K => Bg.gK (guardS (hAt h) s.tm o.guard) (bif isAllocB o.op then alK P o s (fun d => drawL z P tb (h ++ [o.dst]) rest (s.put o.dst d) K) else bif isFrz s o.op then FrzS P o s (fun d l => drawL z P tb (h ++ [o.dst]) rest ({ s with hp := ldel s.hp l }.put o.dst d) K) else bif isBuild o.op then bsK P o s (fun d => drawL z P tb (h ++ [o.dst]) rest (s.put o.dst d) K) else bif isLoad o.op then lsK P o s (fun d => drawL z P tb (h ++ [o.dst]) rest (s.put o.dst d) K) else bif (z && isNilA s o.op) then naK P o s (fun d => drawL z P tb (h ++ [o.dst]) rest (s.put o.dst d) K) else stepDW P tb true o s (fun s' => drawL z P tb (h ++ [o.dst]) rest s' K))

theorem drawL_chain {z : Bool} {P : Program} {rl : Option Nat} {n0 : Nat} {tb : Tb} (ht : TbOk P tb) {ops : List Oper} {K : S → Prop} : ∀ (l pre : List Oper) (s : S), ops = pre ++ l → drawL z P tb (pre.map (·.dst)) l s K →
    ∃ (st : Nat → S) (val : Nat → D), st pre.length = s ∧ K (st (pre.length + l.length)) ∧ ∀ (i : Nat) (o : Oper), pre.length ≤ i → i < pre.length + l.length → ops[i]? = some o → StepOK P rl n0 ops o (st i) (val i) (st (i + 1))
  | [], pre, s, ho, hs => ⟨fun _ => s, fun _ => .un, rfl, hs, fun i o hi hl => by simp at hl; omega⟩
  | o :: rest, pre, s, ho, hs => by
    have hoi : ops[pre.length]? = some o := by rw [ho]; simp
    unfold drawL Bg.gK at hs
    split at hs
    case h_2 => exact hs.elim
    rename_i hg
    have fin : ∀ (d : D) (s' : S), StepOK P rl n0 ops o s d s' → drawL z P tb (pre.map (·.dst) ++ [o.dst]) rest s' K → ∃ (st : Nat → S) (val : Nat → D), st pre.length = s ∧ K (st (pre.length + (o :: rest).length)) ∧ ∀ (i : Nat) (q : Oper), pre.length ≤ i → i < pre.length + (o :: rest).length → ops[i]? = some q → StepOK P rl n0 ops q (st i) (val i) (st (i + 1)) := by
      intro d s' h1 h2
      obtain ⟨st, val, g1, g2, g3⟩ := drawL_chain ht rest (pre ++ [o]) s' (by simpa using ho) (by simpa using h2)
      simp only [List.length_append, List.length_cons, List.length_nil, Nat.zero_add] at g1 g2 g3
      refine ⟨fun i => if i = pre.length then s else st i, fun i => if i = pre.length then d else val i, if_pos rfl, ?_, fun i q hi hl hq => ?_⟩
      · dsimp only
        rw [if_neg (by simp), show pre.length + (o :: rest).length = pre.length + 1 + rest.length by simp; omega]
        exact g2
      · dsimp only
        by_cases hip : i = pre.length
        · subst hip
          rw [hoi] at hq
          cases hq
          rw [if_pos rfl, if_pos rfl, if_neg (by omega), g1]
          exact h1
        · rw [if_neg hip, if_neg hip, if_neg (by omega)]
          exact g3 i q (by omega) (by simp at hl; omega) hq
    have hg2 := hgs_ok ho rfl (tm := s.tm) (by rw [hg]; simp)
    rw [hg] at hg2
    have hconv : guardS (fun j => (ops.toArray[j]?).bind (·.dst)) s.tm o.guard = guardS (fun j => (ops[j]?).bind (·.dst)) s.tm o.guard := by simp
    have hw : ∀ (M : Mem) (a : Act), (∀ t ∈ looks o (fun j => (ops[j]?).bind (·.dst)), ∀ x, lk s.tm t = some x → R M x (a.tmps.getD t undef)) → Region.wanted o (yielded ops.toArray a.tmps) = true := fun M a hf =>
      (guardS_ok (M := M) (w := default) (ops := ops.toArray) (s := s) (a := a) (o := o) fun j want t hgu ht d hd => hf t (by
        unfold looks
        rw [hgu]
        have ht : (ops[j]?).bind (·.dst) = some t := by simpa using ht
        simp only [ht]
        simp) d hd).1 true (hconv.trans hg2)
    cases hal : isAllocB o.op with
    | true =>
      rw [hal] at hs
      simp only [cond_true] at hs
      unfold alK at hs
      split at hs
      · rename_i ty hop
        obtain ⟨q1, q2, q3⟩ := hs
        obtain ⟨ti, hti⟩ := Option.isSome_iff_exists.1 q1
        exact fin _ _ (step_alloc hop hti hw q2) q3
      · exact hs.elim
    | false =>
    rw [hal] at hs
    simp only [cond_false] at hs
    have hna : ∀ ty, o.op ≠ .alloc ty := fun ty e => by rw [e] at hal; simp [isAllocB] at hal
    cases hfz : isFrz s o.op with
    | true =>
      rw [hfz] at hs
      simp only [cond_true] at hs
      obtain ⟨d, l, h1, h2⟩ := step_frz (rl := rl) (n0 := n0) (ops := ops) hw hs
      exact fin d _ h1 h2
    | false =>
    rw [hfz] at hs
    simp only [cond_false] at hs
    cases hb : isBuild o.op with
    | true =>
      rw [hb] at hs
      simp only [cond_true] at hs
      obtain ⟨d, h1, h2⟩ := Bg.stepB_build (rl := rl) (ops := ops) hw hs
      exact fin d _ (of_bq hna h1) h2
    | false =>
      rw [hb] at hs
      simp only [cond_false] at hs
      cases hld : isLoad o.op with
      | true =>
        rw [hld] at hs
        simp only [cond_true] at hs
        obtain ⟨d, h1, h2⟩ := Bg.stepB_load (rl := rl) (ops := ops) hw hs
        exact fin d _ (of_bq hna h1) h2
      | false =>
      rw [hld] at hs
      simp only [cond_false] at hs
      cases hnn : (z && isNilA s o.op) with
      | true =>
        rw [hnn] at hs
        simp only [cond_true] at hs
        obtain ⟨d, h1, h2⟩ := Bg.stepB_nil (rl := rl) (ops := ops) hw hs
        exact fin d _ (of_bq hna h1) h2
      | false =>
      rw [hnn] at hs
      simp only [cond_false] at hs
      obtain ⟨d, s', h1, h2⟩ := step_ok (ops := ops) (rl := rl) hw (guardS_gOk hg) (stepDW_ok ht hs)
      exact fin d s' (of_bq hna (stepB_of hb hld h2)) h1

theorem w_drawL {P : Program} {rl : Option Nat} {I : Gh} {tb : Tb} (ht : TbOk P tb) {Q : X → S → Prop} {s : S} {id : Nat} {l : List Oper} (z : Bool) (b : Nat) (t : Tmp) {ty : TypeId} {ti : Aw.TI} (hm : P.follows .mixedOrders = true) (ho : orderOk (l.take b) = true) (hB : barOk b l = true) (hti : tiOf P ty = some ti)
    (hal : ∃ (j : Nat) (o : Oper), (l.take b)[j]? = some o ∧ o.op = .alloc ty ∧ o.dst = some t)
    (h : drawL z P tb [] (l.take b) s (fun s1 => SeqOk P rl I l b Q (S.mk s1.n (up s1.tm t (.pt s1.nx 0)) (up s1.hp s1.nx (.cells ty none (ti.z.map zD))) (s1.nx + 1) s1.df s1.g s1.ex))) : W P rl I (.region id l.toArray true) Q s := by
  obtain ⟨zs', hbar⟩ := bar_ok hB
  intro r M w a zs hrl hr hgh
  obtain ⟨st, val, h1, h2, h3⟩ := drawL_chain (rl := rl) (n0 := w.heap.size) ht (ops := l.take b) (l.take b) [] s (by simp) h
  simp only [List.length_nil, Nat.zero_add] at h1 h2 h3
  have h3 : ∀ (i : Nat) (o : Oper), (l.take b)[i]? = some o → StepOK P rl w.heap.size (l.take b) o (st i) (val i) (st (i + 1)) := fun i o hi => h3 i o (Nat.zero_le _) (List.getElem?_eq_some_iff.1 hi).1 hi
  obtain ⟨ord, hg⟩ := ord_ok ho
  refine wpIn_region_any hm ?_
  obtain ⟨d1, d2⟩ := hr.h.drawn (w.drawn + 1)
  have hble := hbar.le
  have hlen : (l.take b).length = b := by simp; omega
  have hf : ∀ (n j : Nat), (Array.replicate n false).getD j false = false := fun n j => by
    simp only [Array.getD_eq_getD_getElem?, Array.getElem?_replicate]
    split <;> rfl
  have hgl : (st (l.take b).length).g = s.g := by rw [(st_n h3 (l.take b).length (Nat.le_refl _)).2.2.1, h1]
  have hdrawn := drawn_any (r := r) (n0 := w.heap.size) (zs := zs) (tl := false) (sB := s) hg h3 (fun q => by cases q) (Q := xq (fun a' w' => wpOpsIn (WF r) 0 P l.toArray (EndsS rl r I zs Q) (List.range' b (l.length - b)) a' w') (EndsS rl r I zs Q)) (M0 := M) (w0 := w) (Nat.le_refl _)
    (fun M' w' a' g1 g2 g3 g4 => by
      obtain ⟨j, o, e1, e2, e3⟩ := hal
      obtain ⟨M2, k1, k2, k3⟩ := adopt_ok g1 (g4 j o t ty e1 e2 e3) hti g2
      exact h2 r M2 w' a' zs (g3.mono k3) k1 (by
        show I.at (st (l.take b).length).g M2 w'
        rw [hgl]; exact hgh.mono k2))
    b (Array.replicate b false) M { w with drawn := w.drawn + 1 } a
    ⟨by rw [hlen]; simp, fun i _ hl => (by rw [hf] at hl; cases hl), .inl ⟨0, Nat.zero_le _, by rw [h1]; exact d1, fun j o _ _ => by rw [hf]; simp⟩, fun j o t _ _ hl => (by rw [hf] at hl; cases hl), fun t _ x hx => hr.t t x (by rw [← h1]; exact hx), by rw [h1]; exact hr.sz, by rw [h1]; exact hr.df, by rw [h1]; exact hr.ex, fun j o t ty _ _ _ hl => by rw [hf] at hl; cases hl⟩
    d2.w (hrl.mono d2.le) (Nat.le_trans List.countP_le_length (by rw [List.length_range, hlen]; exact Nat.le_refl _))
  have hcount : (List.range b).countP (fun k => !(Array.replicate b false).getD k true) = b := by
    have : (List.range b).countP (fun k => !(Array.replicate b false).getD k true) = (List.range b).length := by
      rw [List.countP_eq_length]
      intro k hk
      have := List.mem_range.1 hk
      simp [Array.getD, this]
    rw [this, List.length_range]
  have := any_pre (P := P) hbar (F := WF r) (n := 0) (Q := EndsS rl r I zs Q) (N := fun a' w' => wpOpsIn (WF r) 0 P l.toArray (EndsS rl r I zs Q) (List.range' b (l.length - b)) a' w') (fun _ _ h => h) b (Array.replicate b false) (Array.replicate l.length false) a { w with drawn := w.drawn + 1 } (by simp) (by simp) (fun j _ => by rw [hf, hf]) (fun j _ _ => hf _ _) (fun i _ hl => by rw [hf] at hl; cases hl) hcount hdrawn
  rw [show b + (l.length - b) = l.length by omega] at this
  rw [List.size_toArray]
  exact this

section
variable {z : Bool} {P : Program} {tb : Tb} {o : Oper} {s s' : S} {K : S → Prop} {h : List (Option Tmp)}
theorem drawL_nil : drawL z P tb h [] s K = K s := rfl
theorem drawL_step {rest : List Oper} {n : Nat} {tm : List (Nat × D)} {hp : List (Nat × Blk)} {nx : Nat} {df : List Nat} {g : Option Nat} {ex : List D} : drawL z P tb h (o :: rest) ⟨n, tm, hp, nx, df, g, ex⟩ K = Bg.gK (ev (guardS (hAt h) tm o.guard)) (bK (ev (isAllocB o.op)) (alK P o ⟨n, tm, hp, nx, df, g, ex⟩ (fun d => drawL z P tb (h ++ [o.dst]) rest (ev ((S.mk n tm hp nx df g ex).put o.dst d)) K)) (bK (ev (isFrz ⟨n, tm, hp, nx, df, g, ex⟩ o.op)) (FrzS P o ⟨n, tm, hp, nx, df, g, ex⟩ (fun d l => drawL z P tb (h ++ [o.dst]) rest ({ (S.mk n tm hp nx df g ex) with hp := ldel hp l }.put o.dst d) K)) (bK (ev (isBuild o.op)) (bsK P o ⟨n, tm, hp, nx, df, g, ex⟩ (fun d => drawL z P tb (h ++ [o.dst]) rest (ev ((S.mk n tm hp nx df g ex).put o.dst d)) K)) (bK (ev (isLoad o.op)) (lsK P o ⟨n, tm, hp, nx, df, g, ex⟩ (fun d => drawL z P tb (h ++ [o.dst]) rest (ev ((S.mk n tm hp nx df g ex).put o.dst d)) K)) (bK (z && ev (isNilA ⟨n, tm, hp, nx, df, g, ex⟩ o.op)) (naK P o ⟨n, tm, hp, nx, df, g, ex⟩ (fun d => drawL z P tb (h ++ [o.dst]) rest (ev ((S.mk n tm hp nx df g ex).put o.dst d)) K)) (stepDW P tb true o ⟨n, tm, hp, nx, df, g, ex⟩ (fun s' => drawL z P tb (h ++ [o.dst]) rest s' K))))))) := by
  simp only [ev_eq]
  rfl
@[congr] theorem drawL_congr {l : List Oper} (hs : s = s') : drawL z P tb h l s K = drawL z P tb h l s' K := by rw [hs]
@[congr] theorem alK_congr {K : D → Prop} (hs : s = s') : alK P o s K = alK P o s' K := by rw [hs]
end
attribute [simp ↓] drawL_nil
@[congr] theorem frzS_congr {P : Program} {o : Oper} {s s' : S} {K : D → Nat → Prop} (hs : s = s') : FrzS P o s K = FrzS P o s' K := by rw [hs]
attribute [simp] drawL_step isAllocB.eq_def alK.eq_def isFrz.eq_def
end Go.Ev.Bl
