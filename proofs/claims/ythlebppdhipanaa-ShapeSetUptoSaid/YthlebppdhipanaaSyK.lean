/-
  Regions that draw their order: how they are reckoned.
-/
import Derived.Test.YthlebppdhipanaaSyJ
set_option linter.all false
namespace Go.Ev
open Go.Aw (WF enters callFunc_run callsIn_WF)

/-- A pure function tells. -/
def FnD (P : Program) (f : D) (args : List D) (d : D) : Prop :=
  match f with
  | .fn (.func g) first caps => FnO P g (first ++ (args ++ caps)) (.ret d) ∧ D.belL 0 (first ++ (args ++ caps)) = true ∧ D.bel 0 d = true
  | _ => False

def callQ (P : Program) (e : Bool) (f : D) (args : List D) (so : Prop) (g : Option (Nat × Bool)) (dst : Option Tmp) (s : S) (K : S → Prop) : Prop :=
  ∃ d, (e = true → so ∧ FnD P f args d) ∧ s.room dst ∧ K (s.put dst (mkd g e d))

def stepD (P : Program) (rl : Option Nat) (e : Bool) (o : Oper) (s : S) (K : S → Prop) : Prop :=
  match o.op with
  | .pick c x y => pickS e o.guard o.dst (s.val c) (s.val x) (s.val y) s K
  | .call c => (match c.callee with
    | .value f => callQ P e (s.uv f) (c.args.toList.map s.uv) (strictO s.val o.op.operands.toList) o.guard o.dst s K
    | .builtin .append => e = true ∧ bigS P true o s K
    | _ => quietS P e o s K)
  | .panic _ => False
  | .defer _ => False
  | .alloc _ => e = true ∧ lk s.hp s.nx = none ∧ bigS P true o s K
  | .box _ _ => e = true ∧ lk s.hp s.nx = none ∧ bigS P true o s K
  | .buildSlice _ _ _ => e = true ∧ lk s.hp s.nx = none ∧ bigS P true o s K
  | .makeSlice _ _ _ => e = true ∧ lk s.hp s.nx = none ∧ bigS P true o s K
  | .store _ _ _ => e = true ∧ bigS P true o s K
  | _ => isBig o.op = false ∧ quietS P e o s K

def drawH (P : Program) (rl : Option Nat) : List (Option Tmp) → List Oper → S → (S → Prop) → Prop
  | _, [], s, K => K s
  | h, o :: rest, s, K => runK (guardS (hAt h) s.tm o.guard) (fun e => stepD P rl e o s (fun s' => drawH P rl (h ++ [o.dst]) rest s' K)) (s.room o.dst ∧ drawH P rl (h ++ [o.dst]) rest (s.put o.dst .un) K)

theorem valS_heap {P : Program} {h h' : H} {f : Operand → D} {op : Op} (hy : heapy op = false) : valS P h f op = valS P h' f op := by
  cases op <;> first | rfl | (simp [heapy] at hy)

theorem oblS_heap {P : Program} {h h' : H} {f : Operand → D} {op : Op} (hy : heapy op = false) : oblS P h f op = oblS P h' f op := by
  cases op <;> first | rfl | (simp [heapy] at hy)

theorem isAl_big {op : Op} (h : isAl op = true) : isBig op = true := by
  cases op <;> simp [isAl] at h <;> rfl

theorem loadV_mono {h h' : H} (hl : HLe h h') {ti : Go.Aw.TI} {x d : D} (hv : loadV h ti x = some d) : loadV h' ti x = some d := by
  unfold loadV at hv ⊢
  split at hv
  · split at hv
    · rename_i hg
      rw [hl _ _ hg]
      exact hv
    · cases hv
  · exact hv
  · cases hv

theorem loadO_mono {h h' : H} (hl : HLe h h') {ti : Go.Aw.TI} {x : D} (hv : loadO h ti x) : loadO h' ti x := by
  unfold loadO at hv ⊢
  split at hv
  · split at hv
    · rename_i hg
      rw [hl _ _ hg]
      exact hv
    · exact hv.elim
  · exact hv
  · exact hv.elim

theorem ptrEqE_mono {P : Program} {h h' : H} (hl : HLe h h') {op : BinOp} {t : TypeId} {x y d : D} (hv : ptrEqE P h op t x y = some d) : ptrEqE P h' op t x y = some d := by
  unfold ptrEqE at hv ⊢
  split at hv
  case h_2 => cases hv
  split at hv
  case h_2 => cases hv
  rename_i e he
  split at hv
  case h_2 => cases hv
  rename_i j hj
  split at hv
  case h_2 => cases hv
  rename_i a b
  simp only [he, hj, hl _ _ a, hl _ _ b]
  exact hv

theorem valS_mono {P : Program} {h h' : H} (hl : HLe h h') {f : Operand → D} {op : Op} {d : D} (hv : valS P h f op = some d) : valS P h' f op = some d := by
  cases op
  case load t x =>
    simp only [valS] at hv ⊢
    split at hv
    · exact loadV_mono hl hv
    · cases hv
  case binOp op t x y t' =>
    simp only [valS, binV] at hv ⊢
    split at hv
    · exact hv
    · exact hv
    · exact hv
    · split at hv
      · exact hv
      · exact ptrEqE_mono hl hv
  all_goals exact hv

theorem oblS_mono {P : Program} {h h' : H} (hl : HLe h h') {f : Operand → D} {op : Op} (hv : oblS P h f op) : oblS P h' f op := by
  cases op
  case load t x =>
    simp only [oblS] at hv ⊢
    split at hv
    · exact loadO_mono hl hv
    · exact hv
  all_goals exact hv

theorem val_facts {M : Mem} {s : S} {a : Act} {o : Oper} {gd : Nat → Option Tmp} (h : ∀ t ∈ looks o gd, ∀ x, lk s.tm t = some x → R M x (a.tmps.getD t undef)) : ∀ x ∈ o.op.operands, R M (s.val x) (a.eval x) := by
  intro x hx
  cases x with
  | tmp t =>
    simp only [S.val]
    cases hl : lk s.tm t with
    | none => exact .any _
    | some d => exact h t (by unfold looks; exact List.mem_append_left _ (List.mem_filterMap.2 ⟨.tmp t, by simpa using hx, rfl⟩)) d hl
  | const v => exact constD_R v
  | func f => exact .fn _ _ _ _ _ rfl rfl (fun i d hi => by simp at hi) (fun i d hi => by simp at hi)
  | global g => exact .any _

theorem uv_facts {M : Mem} {s : S} {a : Act} {o : Oper} {gd : Nat → Option Tmp} (h : ∀ t ∈ looks o gd, ∀ x, lk s.tm t = some x → R M x (a.tmps.getD t undef)) (hso : strictO s.val o.op.operands.toList) : ∀ x ∈ o.op.operands, R M (s.uv x) (a.eval x) :=
  fun x hx => ungd_R (val_facts h x hx) (strictO_mem hso x (Array.mem_toList_iff.2 hx))

section
variable {P : Program} {rl : Option Nat} {ops : List Oper} {o : Oper} {s : S} {e : Bool} {K : S → Prop}

/-- How an operation is done, wanted or not. -/
theorem wanted_if {r : Option Nat} {M : Mem} {w : World} {a : Act} {d : D} {next : Act → World → Prop} {Q : Exit → Act → World → Prop} {h : H} (hw : Region.wanted o (yielded ops.toArray a.tmps) = e) (hg : gOk o.guard e) (d0 : D) (hd : d = mkd o.guard e d0) (hr : RH M h w)
    (hn : ∀ M' w' v, RH M' h w' → R M' d v → Ext M w M' w' → next (a.put o.dst v) w') (hy : e = true → o.wpIn (WF r) 0 P a w next Q) :
    (if Region.wanted o (yielded ops.toArray a.tmps) then o.wpIn (WF r) 0 P a w next Q else (∀ f, o.about P w a.eval = some f → (WF r).fn f) ∧ next (a.put o.dst undef) w) := by
  rw [hw]
  cases e with
  | true => exact hy rfl
  | false => exact ⟨fun _ _ => trivial, hn M w undef hr (by rw [hd]; exact skip_mkd rfl hg d0) (Ext.refl M w)⟩

theorem quiet_step (hgd : ∀ (M : Mem) (a : Act), (∀ t ∈ looks o (fun j => (ops[j]?).bind (·.dst)), ∀ x, lk s.tm t = some x → R M x (a.tmps.getD t undef)) → Region.wanted o (yielded ops.toArray a.tmps) = e) (hg : gOk o.guard e)
    (hnd : ∀ c, o.op ≠ .defer c) (hb : isBig o.op = false) (h : quietS P e o s K) : ∃ d s', K s' ∧ StepOK P rl ops o s d s' := by
  unfold quietS at h
  split at h
  · rename_i d hd
    obtain ⟨h1, h2, h3⟩ := h
    refine ⟨mkd o.guard e d, _, h3, ⟨by cases o.dst <;> rfl, by cases o.dst <;> rfl, by cases o.dst <;> rfl, by cases o.dst <;> rfl, h2, rfl, fun _ => by cases o.dst <;> rfl, fun ha => (by have := isAl_big ha; simp_all), fun r M w a h hrl hr hh hh3 hsz hf next Q hn => ?_⟩⟩
    rw [hb] at hn
    refine wanted_if (hgd M a hf) hg d rfl hr hn fun he => ?_
    obtain ⟨q1, q2⟩ := h1 he
    have hq : QOp P h s.uv o.op d := by
      cases hy : heapy o.op with
      | true => exact quiet_ok (valS_mono (hh3 hy) hd) (oblS_mono (hh3 hy) q2)
      | false => exact quiet_ok (by rw [valS_heap hy]; exact hd) (by rw [oblS_heap hy]; exact q2)
    exact did_next hnd (hq M w hr a.eval (uv_facts hf q1) o rfl) next Q fun M' w' v g1 g2 g3 => hn M' w' v g1 (mkd_R he g2) g3
  · obtain ⟨h1, h2, h3⟩ := h
    subst h1
    refine ⟨.gd false (.lit (.bool false)), _, h3, ⟨by cases o.dst <;> rfl, by cases o.dst <;> rfl, by cases o.dst <;> rfl, by cases o.dst <;> rfl, h2, rfl, fun _ => by cases o.dst <;> rfl, fun ha => (by have := isAl_big ha; simp_all), fun r M w a h hrl hr hh hh3 hsz hf next Q hn => ?_⟩⟩
    rw [hb] at hn
    rw [hgd M a hf]
    exact ⟨fun _ _ => trivial, hn M w undef hr (nb_R M) (Ext.refl M w)⟩

theorem pick_step (hgd : ∀ (M : Mem) (a : Act), (∀ t ∈ looks o (fun j => (ops[j]?).bind (·.dst)), ∀ x, lk s.tm t = some x → R M x (a.tmps.getD t undef)) → Region.wanted o (yielded ops.toArray a.tmps) = e) (hg : gOk o.guard e)
    {c x y : Operand} (hop : o.op = .pick c x y) (h : pickS e o.guard o.dst (s.val c) (s.val x) (s.val y) s K) : ∃ d s', K s' ∧ StepOK P rl ops o s d s' := by
  unfold pickS at h
  split at h
  case h_2 => exact h.elim
  rename_i b hb
  split at h
  case h_2 => exact h.elim
  rename_i d hd
  obtain ⟨h1, h2, h3⟩ := h
  have hbig : isBig o.op = false := by rw [hop]; rfl
  refine ⟨mkd o.guard e d, _, h3, ⟨by cases o.dst <;> rfl, by cases o.dst <;> rfl, by cases o.dst <;> rfl, by cases o.dst <;> rfl, h2, rfl, fun _ => by cases o.dst <;> rfl, fun ha => (by have := isAl_big ha; simp_all), fun r M w a h hrl hr hh hh3 hsz hf next Q hn => ?_⟩⟩
  rw [hbig] at hn
  refine wanted_if (hgd M a hf) hg d rfl hr hn fun he => ?_
  obtain ⟨q1, q2, q3⟩ := h1 he
  have hv := val_facts hf
  rw [hop] at hv
  have hc := ungd_R (hv c (by simp [Op.operands])) q1
  rw [hb] at hc
  refine ⟨fun _ _ => trivial, ?_⟩
  rw [semAt_exec (fun c' => by rw [hop]; simp)]
  have hrun : (execOp a.eval o).run P w = .ok (.value (if b then a.eval x else a.eval y)) w := by simp only [execOp, hop, hc.litE, asBool, Sem.run_bind, Sem.run_pure, Result.andThen_ok]
  rw [hrun]
  refine hn M w _ hr (mkd_R he ?_) (Ext.refl M w)
  unfold pickV at hd
  split at hd
  case h_2 => cases hd
  rename_i p q hp hq
  cases hd
  cases b with
  | true =>
    have := ungd_R (hv x (by simp [Op.operands])) (q2 rfl)
    rw [hp] at this
    exact this
  | false =>
    have := ungd_R (hv y (by simp [Op.operands])) (q3 rfl)
    rw [hq] at this
    exact this

theorem bigL_al {P : Program} {hp hp' : List (Nat × Blk)} {nx nx' : Nat} {f : Operand → D} {op : Op} {d : D} (ha : isAl op = true) (h : bigL P hp nx f op = some (d, hp', nx')) : ∃ k, hp' = up hp nx k := by
  cases op <;> simp only [isAl, Bool.false_eq_true] at ha <;> simp only [bigL] at h
  · split at h
    · cases h; exact ⟨_, rfl⟩
    · cases h
  · cases h; exact ⟨_, rfl⟩
  · split at h
    · split at h
      · split at h
        · cases h; exact ⟨_, rfl⟩
        · cases h
      · cases h
    · cases h
  · split at h
    · split at h
      · cases h; exact ⟨_, rfl⟩
      · cases h
    · cases h

theorem big_step (hgd : ∀ (M : Mem) (a : Act), (∀ t ∈ looks o (fun j => (ops[j]?).bind (·.dst)), ∀ x, lk s.tm t = some x → R M x (a.tmps.getD t undef)) → Region.wanted o (yielded ops.toArray a.tmps) = true)
    (hnd : ∀ c, o.op ≠ .defer c) (hb : isBig o.op = true) (hfr : isAl o.op = true → lk s.hp s.nx = none) (h : bigS P true o s K) : ∃ d s', K s' ∧ StepOK P rl ops o s d s' := by
  unfold bigS at h
  split at h
  · rename_i d hp' nx' hd
    obtain ⟨q1, q2, q3, q4⟩ := h.1 rfl
    have hhy : heapy o.op = true := by
      revert hb
      cases o.op <;> simp [isBig, heapy]
    refine ⟨d, _, q4, ⟨by cases o.dst <;> rfl, by cases o.dst <;> rfl, by cases o.dst <;> rfl, by cases o.dst <;> rfl, q3, by cases o.dst <;> rfl, fun hf => (by rw [hb] at hf; cases hf), fun ha => ?_, fun r M w a h hrl hr hh hh3 hsz hf next Q hn => ?_⟩⟩
    · have hup : ∃ k, hp' = up s.hp s.nx k := bigL_al ha hd
      obtain ⟨k, rfl⟩ := hup
      intro l q e
      have e : lk s.hp l = some q := by rw [← get_toT]; exact e
      have : ({ s with hp := up s.hp s.nx k, nx := nx' }.put o.dst d).H.hp.get l = lk (up s.hp s.nx k) l := by
        cases o.dst <;> exact get_toT _ _
      rw [this, lk_up, if_neg (fun h => by subst h; rw [hfr ha] at e; cases e)]
      exact e
    rw [if_pos (hgd M a hf)]
    rw [hb] at hn
    have := hh hb
    subst this
    refine did_next hnd (big_ok hd q2 M w hr a.eval (uv_facts hf q1) o rfl) next Q fun M' w' v g1 g2 g3 => hn M' w' v ?_ g2 g3
    cases o.dst <;> exact g1
  · obtain ⟨h1, _⟩ := h
    cases h1

theorem fn_run {f : D} {args : List D} {d : D} (hf : FnD P f args d) {c : Call} {g : Operand} (hop : o.op = .call c) (hc : c.callee = .value g) {M : Mem} {w : World} {a : Act} {h : H} {r : Option Nat} (hr : RH M h w) (hfv : R M f (a.eval g)) (hargs : argsOk M args (c.args.map a.eval))
    (next : Act → World → Prop) (Q : Exit → Act → World → Prop) (hn : ∀ M' w' v, RH M' h w' → R M' d v → Ext M w M' w' → next (a.put o.dst v) w') : o.wpIn (WF r) 0 P a w next Q := by
  unfold FnD at hf
  split at hf
  case h_2 => exact hf.elim
  rename_i gf first caps
  obtain ⟨hfo, hb, hbd⟩ := hf
  generalize hv : a.eval g = fv at hfv
  cases hfv with
  | fn _ _ _ v1 v2 h1 h2 r1 r2 =>
  have hao : argsOk M (first ++ (args ++ caps)) (v1 ++ c.args.map a.eval ++ v2) := by
    have := argsOk_append (M := M) ⟨h1, r1⟩ (argsOk_append hargs ⟨h2, r2⟩)
    rwa [← Array.append_assoc] at this
  have hex : (execOp a.eval o).run P w = (callFunc gf (v1 ++ c.args.map a.eval ++ v2)).run P w := by
    unfold execOp
    simp only [hop, resolve, hc, hv, Deferred.ofValue, Sem.run_bind, Sem.run_pure, Result.andThen_ok, invoke]
  have hvs' := args_none hao hb
  -- memory as it is, but for more that does not change
  have grow : ∀ {w' : World} {fz' : Nat → Option (Array Value)}, Inv (Mem.none fz') w' → ExtW (Mem.none M.fz) w (Mem.none fz') w' → RH { M with fz := fz' } h w' ∧ Ext M w { M with fz := fz' } w' := by
    intro w' fz' hi he
    have hle : M.le { M with fz := fz' } := ⟨Nat.le_refl _, fun _ _ => .inl rfl, he.fz⟩
    have hkeep : ∀ b, b < w.heap.size → w'.heap[b]? = w.heap[b]? := fun b hb => he.keep b hb (fun _ _ e => by cases e)
    have hsep : ∀ b c, fz' b = some c → ∀ l k, M.μ l ≠ .blk b k := fun b c e l k e2 => by
      rcases he.fznew b c e with h1 | ⟨_, _, h1⟩ | h1
      · exact hr.inv.sep b c h1 l k e2
      · cases h1
      · have := hr.inv.lt l b k e2; omega
    refine ⟨⟨⟨hr.inv.inj, fun l b c e => Nat.lt_of_lt_of_le (hr.inv.lt l b c e) he.size, hr.inv.nx, hi.fz, hsep⟩, fun l k e => (hr.hp l k e).mono hle (fun b c e2 => hkeep b (hr.inv.lt _ _ _ e2)), hr.nx⟩,
      ⟨he.os, he.tape, he.output, he.size, fun b hb _ => hkeep b hb, fun l b c e => .inl ⟨l, c, e⟩, Nat.le_refl _, fun _ _ => .inl rfl, he.fz, fun b c e => ?_, fun _ _ h => h⟩⟩
    rcases he.fznew b c e with h1 | ⟨_, _, h1⟩ | h1
    · exact .inl h1
    · cases h1
    · exact .inr (.inr h1)
  refine ⟨fun _ _ => trivial, ?_⟩
  rw [semAt_exec (fun c' hc' => by rw [hop] at hc'; cases hc')]
  rcases hfo with ⟨he, hcall⟩ | ⟨he, hcall⟩
  · rw [hex, callFunc_run he _ w]
    refine ⟨fun h => by simp [WF] at h, callsIn_WF ((hcall _ w _ (inv_none hr.inv) hvs').mono ?_)⟩
    rintro x w' ⟨fz', ⟨v, rfl, k1⟩, k2, k3⟩
    obtain ⟨g1, g2⟩ := grow k2 k3
    exact hn _ w' v g1 (k1.free hbd (fun _ _ h => h)) g2
  · obtain ⟨d', v, w', fz', hd', k0, k1, k2, k3⟩ := hcall _ w _ (inv_none hr.inv) hvs'
    cases hd'
    obtain ⟨g1, g2⟩ := grow k2 k3
    rw [hex, k0]
    exact hn _ w' v g1 (k1.free hbd (fun _ _ h => h)) g2

theorem call_step (hgd : ∀ (M : Mem) (a : Act), (∀ t ∈ looks o (fun j => (ops[j]?).bind (·.dst)), ∀ x, lk s.tm t = some x → R M x (a.tmps.getD t undef)) → Region.wanted o (yielded ops.toArray a.tmps) = e) (hg : gOk o.guard e)
    {c : Call} {f : Operand} (hop : o.op = .call c) (hc : c.callee = .value f) (h : callQ P e (s.uv f) (c.args.toList.map s.uv) (strictO s.val o.op.operands.toList) o.guard o.dst s K) : ∃ d s', K s' ∧ StepOK P rl ops o s d s' := by
  obtain ⟨d, h1, h2, h3⟩ := h
  have hbig : isBig o.op = false := by rw [hop]; simp only [isBig, hc]
  refine ⟨mkd o.guard e d, _, h3, ⟨by cases o.dst <;> rfl, by cases o.dst <;> rfl, by cases o.dst <;> rfl, by cases o.dst <;> rfl, h2, rfl, fun _ => by cases o.dst <;> rfl, fun ha => (by have := isAl_big ha; simp_all), fun r M w a h hrl hr hh hh3 hsz hf next Q hn => ?_⟩⟩
  rw [hbig] at hn
  refine wanted_if (hgd M a hf) hg d rfl hr hn fun he => ?_
  obtain ⟨q1, q2⟩ := h1 he
  have hx := uv_facts hf q1
  rw [hop] at hx
  have hargs : argsOk M (c.args.toList.map s.uv) (c.args.map a.eval) := ⟨by simp, fun i d hi => by
    simp only [List.getElem?_map, Array.getElem?_toList, Option.map_eq_some_iff] at hi
    obtain ⟨x, hxi, rfl⟩ := hi
    rw [show (c.args.map a.eval).getD i undef = a.eval x by simp [Array.getD_eq_getD_getElem?, hxi]]
    exact hx x (by simp only [Op.operands, Call.operands, hc]; simp [Array.mem_of_getElem? hxi])⟩
  exact fn_run q2 hop hc hr (hx f (by simp only [Op.operands, Call.operands, hc]; simp)) hargs next Q fun M' w' v g1 g2 g3 => hn M' w' v g1 (mkd_R he g2) g3

theorem step_ok (hgd : ∀ (M : Mem) (a : Act), (∀ t ∈ looks o (fun j => (ops[j]?).bind (·.dst)), ∀ x, lk s.tm t = some x → R M x (a.tmps.getD t undef)) → Region.wanted o (yielded ops.toArray a.tmps) = e) (hg : gOk o.guard e)
    (h : stepD P rl e o s K) : ∃ d s', K s' ∧ StepOK P rl ops o s d s' := by
  have big : (∀ c, o.op ≠ .defer c) → isBig o.op = true → isAl o.op = false → (e = true ∧ bigS P true o s K) → ∃ d s', K s' ∧ StepOK P rl ops o s d s' := fun h1 h2 h4 h3 => by
    obtain ⟨rfl, h3⟩ := h3
    exact big_step hgd h1 h2 (fun h => by rw [h4] at h; cases h) h3
  have bigA : (∀ c, o.op ≠ .defer c) → isBig o.op = true → (e = true ∧ lk s.hp s.nx = none ∧ bigS P true o s K) → ∃ d s', K s' ∧ StepOK P rl ops o s d s' := fun h1 h2 h3 => by
    obtain ⟨rfl, h4, h3⟩ := h3
    exact big_step hgd h1 h2 (fun _ => h4) h3
  unfold stepD at h
  split at h
  · rename_i hop; exact pick_step hgd hg hop h
  · rename_i c hop
    split at h
    · rename_i f hc; exact call_step hgd hg hop hc h
    · rename_i hc; exact big (by rw [hop]; simp) (by rw [hop]; simp only [isBig, hc]) (by rw [hop]; rfl) h
    · rename_i h1 h2
      exact quiet_step hgd hg (by rw [hop]; simp) (by
        rw [hop]
        show (match c.callee with | .builtin .append => true | _ => false) = false
        split
        · rename_i hc; exact absurd hc h2
        · rfl) h
  · exact h.elim
  · exact h.elim
  · rename_i hop; exact bigA (by rw [hop]; simp) (by rw [hop]; rfl) h
  · rename_i hop; exact bigA (by rw [hop]; simp) (by rw [hop]; rfl) h
  · rename_i hop; exact bigA (by rw [hop]; simp) (by rw [hop]; rfl) h
  · rename_i hop; exact bigA (by rw [hop]; simp) (by rw [hop]; rfl) h
  · rename_i hop; exact big (by rw [hop]; simp) (by rw [hop]; rfl) (by rw [hop]; rfl) h
  · exact quiet_step hgd hg (by assumption) h.1 h.2
end

theorem hgs_ok {ops pre rest : List Oper} {o : Oper} {h : List (Option Tmp)} (ho : ops = pre ++ o :: rest) (hh : h = pre.map (·.dst)) {tm : List (Nat × D)} (hb : guardS (hAt h) tm o.guard ≠ .bad) :
    guardS (fun j => (ops[j]?).bind (·.dst)) tm o.guard = guardS (hAt h) tm o.guard := by
  have hgd : ∀ j, hAt h j ≠ none → hAt h j = (ops[j]?).bind (·.dst) := fun j hj => by
    rw [hAt_eq] at hj ⊢
    rw [hh, List.getElem?_map] at hj ⊢
    rw [ho]
    cases hp : pre[j]? with
    | none => rw [hp] at hj; simp at hj
    | some q => rw [List.getElem?_append_left (List.getElem?_eq_some_iff.1 hp).1, hp]; rfl
  cases hgu : o.guard with
  | none => rfl
  | some p =>
    obtain ⟨j, want⟩ := p
    rw [hgu] at hb
    simp only [guardS] at hb ⊢
    cases hj : hAt h j with
    | none => rw [hj] at hb; exact absurd rfl hb
    | some t => rw [← hgd j (by rw [hj]; simp), hj]

section
variable {P : Program} {rl : Option Nat} {I : Gh} {e e' : Bool} {o : Oper} {s : S} {K : S → Prop}
theorem drawH_nil {h : List (Option Tmp)} : drawH P rl h [] s K = K s := rfl
theorem drawH_step {h : List (Option Tmp)} {rest : List Oper} {n : Nat} {tm : List (Nat × D)} {hp : List (Nat × Blk)} {nx : Nat} {df : List Nat} {g : Option Nat} {ex : List D} : drawH P rl h (o :: rest) ⟨n, tm, hp, nx, df, g, ex⟩ K = runK (ev (guardS (hAt h) tm o.guard)) (fun e => stepD P rl e o ⟨n, tm, hp, nx, df, g, ex⟩ (fun s' => drawH P rl (h ++ [o.dst]) rest s' K)) ((S.mk n tm hp nx df g ex).room o.dst ∧ drawH P rl (h ++ [o.dst]) rest (ev ((S.mk n tm hp nx df g ex).put o.dst .un)) K) := by
  rw [ev_eq, ev_eq]; rfl
@[congr] theorem drawH_congr {h h' : List (Option Tmp)} {l : List Oper} {s s' : S} (hs : s = s') (hh : h = h') : drawH P rl h l s K = drawH P rl h' l s' K := by rw [hs, hh]
@[congr] theorem stepD_congr {s s' : S} (h : s = s') (he : e = e') : stepD P rl e o s K = stepD P rl e' o s' K := by rw [h, he]
@[congr] theorem callQ_congr {f f' : D} {a a' : List D} {so : Prop} {g : Option (Nat × Bool)} {dst : Option Tmp} (h : f = f') (h2 : a = a') : callQ P e f a so g dst s K = callQ P e f' a' so g dst s K := by rw [h, h2]

theorem callS_fn {g : FuncId} {first caps args : List D} {so : Prop} {gg : Option (Nat × Bool)} {dst : Option Tmp} {Kp : D → S → Prop} (d : D) (hso : e = true → so) (h : e = true → FnO P g (first ++ (args ++ caps)) (.ret d)) (ha : D.belL 0 (first ++ (args ++ caps)) = true) (hd : D.bel 0 d = true) (hr : s.room dst)
    (hK : K (s.put dst (mkd gg e d))) : CallS P rl I e (.fn (.func g) first caps) args so gg dst s K Kp :=
  .inl ⟨d, fun he => ⟨hso he, callF_fnO (h he) ha (fun d' hd' => by rcases hd' with h | h <;> cases h; exact hd) ⟨rfl, rfl⟩⟩, hr, hK⟩
end

attribute [simp ↓] stepD.eq_def drawH_nil
attribute [simp] drawH_step isBig.eq_def
end Go.Ev
