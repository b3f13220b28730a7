/-
  Regions in the text's order; functions.
-/
import Derived.Test.YthlebppdhipanaaSyG
set_option linter.all false
namespace Go.Ev
open Go.Aw (WF enters callFunc_run callsIn_WF tiOf TIs tiOf_spec)

theorem callS_ok {P : Program} {rl : Option Nat} {I : Gh} {e : Bool} {o : Oper} {s : S} {K : S → Prop} {Kp : D → S → Prop} {c : Call} {f : Operand} (hop : o.op = .call c) (hc : c.callee = .value f) (hg : gOk o.guard e)
    (h : CallS P rl I e (s.uv f) (c.args.toList.map s.uv) (strictO s.val o.op.operands.toList) o.guard o.dst s K Kp) : OpS P rl I e o s K Kp := by
  intro r M w a zs next Q hrl hr hgh hn hp
  rcases h with ⟨d, h1, h2, h3⟩ | ⟨h1, h2⟩
  · refine ⟨fun he => ?_, fun he => hn M _ w _ (hr.put (skip_mkd he hg d) h2) (by rw [S.put_g]; exact hgh) hrl h3⟩
    obtain ⟨q1, q2⟩ := h1 he
    refine callD_ok hop hc q1 q2 hrl hr hgh next Q ?_ (fun _ _ _ _ _ _ _ _ _ h => h.elim)
    rintro M' s' w' d' v g1 g2 g3 g4 ⟨rfl, rfl⟩
    exact hn M' _ w' _ (g1.put (mkd_R he g4) h2) (by rw [S.put_g]; exact g2) g3 h3
  · refine ⟨fun he => ?_, fun he => ?_⟩
    · obtain ⟨q1, q2⟩ := h1 he
      exact callD_ok hop hc q1 q2 hrl hr hgh next Q (fun M' s' w' d v g1 g2 g3 g4 g5 => hn M' _ w' _ (g1.put g4 g5.1) (by rw [S.put_g]; exact g2) g3 g5.2) hp
    · obtain ⟨q1, q2⟩ := h2 he
      exact hn M _ w _ (hr.put .un q1) (by rw [S.put_g]; exact hgh) hrl q2

theorem stepS_ok {P : Program} {rl : Option Nat} {I : Gh} {e : Bool} {o : Oper} {s : S} {K : S → Prop} {Kp : D → S → Prop} (hg : gOk o.guard e) (hnp : ∀ x, o.op ≠ .panic x) (h : stepS P rl I e o s K Kp) : OpS P rl I e o s K Kp := by
  have quiet : (∀ c, o.op ≠ .defer c) → quietS P e o s K → OpS P rl I e o s K Kp := fun hnd h => quietS_ok hg hnd h
  have big : (∀ c, o.op ≠ .defer c) → bigS P e o s K → OpS P rl I e o s K Kp := fun hnd h => bigS_ok hnd h
  unfold stepS at h
  split at h
  · rename_i hop; exact pickS_ok hop hg h
  · rename_i c hop
    split at h
    · rename_i f hc; exact callS_ok hop hc hg h
    · exact big (by rw [hop]; simp) h
    · exact quiet (by rw [hop]; simp) h
  · rename_i x hop; exact absurd hop (hnp x)
  · rename_i hop; exact big (by rw [hop]; simp) h
  · rename_i hop; exact big (by rw [hop]; simp) h
  · rename_i hop; exact big (by rw [hop]; simp) h
  · rename_i hop; exact big (by rw [hop]; simp) h
  · rename_i hop; exact big (by rw [hop]; simp) h
  · cases hop : o.op
    case defer c =>
      unfold quietS at h
      rw [hop] at h
      simp only [valS] at h
      -- a deferred call is never reckoned
      intro r M w a zs next Q hrl hr hgh hn hp
      refine ⟨fun he => ?_, fun he => hn M _ w _ (hr.put (nb_R M) h.2.1) (by rw [S.put_g]; exact hgh) hrl h.2.2⟩
      have := h.1
      rw [he] at this
      cases this
    all_goals exact quiet (by rw [hop]; simp) h

def noPanic : Op → Bool
  | .panic _ => false
  | _ => true

def seqS (P : Program) (rl : Option Nat) (I : Gh) (gd : Nat → Option Tmp) : List Oper → S → (S → Prop) → (D → S → Prop) → Prop
  | [], s, K, _ => K s
  | o :: rest, s, K, Kp => noPanic o.op = true ∧ (match guardS gd s.tm o.guard with
    | .bad => False
    | .skip => s.room o.dst ∧ seqS P rl I gd rest (s.put o.dst .un) K Kp
    | .run e => stepS P rl I e o s (fun s' => seqS P rl I gd rest s' K Kp) Kp)

theorem guardS_gOk {gd : Nat → Option Tmp} {tm : List (Nat × D)} {g : Option (Nat × Bool)} {e : Bool} (h : guardS gd tm g = .run e) : gOk g e := by
  intro hn
  subst hn
  simp only [guardS] at h
  cases h
  rfl

/-! ### Functions -/
def argsL : Nat → List D → List (Nat × D)
  | _, [] => []
  | k, d :: r => (k, d) :: argsL (k + 1) r

theorem lk_argsL : ∀ (l : List D) (k t : Nat) (d : D), lk (argsL k l) t = some d → k ≤ t ∧ l[t - k]? = some d
  | [], k, t, d, h => by simp [argsL, lk] at h
  | e :: r, k, t, d, h => by
    simp only [argsL, lk] at h
    split at h
    · rename_i hk
      subst hk
      cases h
      simp
    · rename_i hk
      obtain ⟨h1, h2⟩ := lk_argsL r (k + 1) t d h
      refine ⟨by omega, ?_⟩
      rw [show t - k = (t - (k + 1)) + 1 by omega]
      simpa using h2

def start (n : Nat) (args : List D) (g : Option Nat) : S := { n := n, tm := argsL 0 args, hp := [], nx := 0, df := [], g := g, ex := [] }

/-- The results. -/
def resV (P : Program) (s : S) : List ResultVar → Option (List D)
  | [] => some []
  | .tmp t :: r => (match resV P s r with
    | some l => some (s.val (.tmp t) :: l)
    | none => none)
  | .cell t ty :: r => (match tiOf P ty with
    | some ti => (match loadV s.H ti (s.val (.tmp t)), resV P s r with
      | some d, some l => some (d :: l)
      | _, _ => none)
    | none => none)

def resO (P : Program) (s : S) : List ResultVar → Prop
  | [] => True
  | .tmp _ :: r => resO P s r
  | .cell t ty :: r => (match tiOf P ty with
    | some ti => loadO s.H ti (s.val (.tmp t))
    | none => False) ∧ resO P s r

theorem resV_ok {P : Program} {M : Mem} {s : S} {w : World} {a : Act} {zs : Nat → Value} (hr : SRep zs M s w a) : ∀ (l : List ResultVar) (ds : List D), resV P s l = some ds → resO P s l →
    ∃ vs, (l.mapM fun (x : ResultVar) => match x with | .tmp t => pure (a.tmps.getD t undef) | .cell p t => (do loadVar t (← asAddr (a.tmps.getD p undef)) : Sem Value)).run P w = .ok vs w ∧
      vs.length = ds.length ∧ (∀ (i : Nat) d, ds[i]? = some d → R M d (vs.getD i undef))
  | [], ds, h, _ => by
    simp only [resV, Option.some.injEq] at h
    subst h
    exact ⟨[], by simp, rfl, by simp⟩
  | .tmp t :: r, ds, h, ho => by
    simp only [resV] at h
    split at h
    case h_2 => cases h
    rename_i l hl
    cases h
    obtain ⟨vs, h1, h2, h3⟩ := resV_ok hr r l hl ho
    refine ⟨a.tmps.getD t undef :: vs, ?_, by simp [h2], fun i d hi => ?_⟩
    · simp only [List.mapM_cons, Sem.run_bind, Sem.run_pure, Result.andThen_ok, h1]
    · cases i with
      | zero => simp at hi; subst hi; exact hr.val (.tmp t)
      | succ i => exact h3 i d (by simpa using hi)
  | .cell p ty :: r, ds, h, ho => by
    simp only [resV] at h
    simp only [resO] at ho
    split at h
    case h_2 => cases h
    rename_i ti hti
    obtain ⟨it, dt, zt, ht⟩ := tiOf_spec hti
    simp only [hti] at ho
    split at h
    case h_2 => cases h
    rename_i d l hd hl
    cases h
    obtain ⟨u, e1, e2⟩ := load_ok ht hr.h (loadV_ok hd ho.1) (hr.val (.tmp p))
    obtain ⟨vs, h1, h2, h3⟩ := resV_ok hr r l hl ho.2
    have e1' := Aw.loadAt_asAddr e1
    refine ⟨u :: vs, ?_, by simp [h2], fun i d hi => ?_⟩
    · simp only [List.mapM_cons]
      rw [Sem.run_bind]
      have e2' : a.eval (.tmp p) = a.tmps.getD p undef := rfl
      rw [e2'] at e1'
      have : (do loadVar ty (← asAddr (a.tmps.getD p undef)) : Sem Value).run P w = .ok u w := e1'
      rw [this]
      simp only [Result.andThen_ok, Sem.run_bind, h1, Sem.run_pure]
    · cases i with
      | zero => simp at hi; subst hi; exact e2
      | succ i => exact h3 i d (by simpa using hi)

theorem resultsV_ok {P : Program} {M : Mem} {s : S} {w : World} {a : Act} {zs : Nat → Value} (hr : SRep zs M s w a) (fn : Func) {ds : List D} (h : resV P s fn.results.toList = some ds) (ho : resO P s fn.results.toList) :
    ∃ v, (results fn a.tmps).run P w = .ok v w ∧ R M (packD ds) v := by
  obtain ⟨vs, h1, h2, h3⟩ := resV_ok hr _ _ h ho
  have hm : (fn.results.mapM fun (x : ResultVar) => match x with | .tmp t => pure (a.tmps.getD t undef) | .cell p t => (do loadVar t (← asAddr (a.tmps.getD p undef)) : Sem Value)).run P w = .ok vs.toArray w := by
    rw [Array.mapM_eq_mapM_toList, Sem.run_map, h1]
    rfl
  refine ⟨if h : vs.toArray.size = 1 then vs.toArray[0] else .tuple vs.toArray, ?_, ?_⟩
  · unfold results
    rw [Sem.run_bind]
    exact congrArg (fun r => Result.andThen r fun (a : Array Value) w' => Sem.run P (pure (if h : a.size = 1 then a[0] else Value.tuple a)) w') hm
  · match ds, vs, h2, h3 with
    | [d], [v], _, h3 => simpa [packD] using h3 0 d rfl
    | [], [], _, _ => exact .tup _ _ rfl (by simp)
    | d :: e :: r, v :: u :: q, h2, h3 =>
      simp only [packD]
      rw [dif_neg (by simp)]
      exact .tup _ _ (by simpa using h2) (fun i x hi => by
        have := h3 i x hi
        rwa [show (v :: u :: q).toArray.getD i undef = (v :: u :: q).getD i undef by simp [Array.getD_eq_getD_getElem?, List.getD_eq_getElem?_getD]])

/-- What a value is when all that the state owns does not change any more. -/
inductive Seals (hp : List (Nat × Blk)) : D → D → Prop
  | same (d : D) (h : D.bel 0 d = true) : Seals hp d d
  | sl (l off len : Nat) (cap : Option Nat) (ty : TypeId) (op : Option Nat) (ds : List D) (sz : Nat) (rows : List (List D)) (src : Nat → Nat → D) (hl : lk hp l = some (.cells ty op ds)) (hn : rows.length = len) (hz : ∀ r, r ∈ rows → r.length = sz)
      (hs : ∀ (i j : Nat) r x, rows[i]? = some r → r[j]? = some x → ds[off + i * sz + j]? = some (src i j)) (h : ∀ (i j : Nat) r x, rows[i]? = some r → r[j]? = some x → Seals hp (src i j) x) : Seals hp (.sl l off len cap) (.sq false sz rows)
  | ow (l n : Nat) (ty : TypeId) (op : Option Nat) (ds : List D) (sz : Nat) (rows : List (List D)) (src : Nat → Nat → D) (hl : lk hp l = some (.cells ty op ds)) (hn : rows.length = n) (hz : ∀ r, r ∈ rows → r.length = sz)
      (hs : ∀ (i j : Nat) r x, rows[i]? = some r → r[j]? = some x → ds[i * sz + j]? = some (src i j)) (h : ∀ (i j : Nat) r x, rows[i]? = some r → r[j]? = some x → Seals hp (src i j) x) : Seals hp (.ow l n) (.sq false sz rows)
  | pt (l o : Nat) (ty : TypeId) (op : Option Nat) (ds ds' : List D) (hl : lk hp l = some (.cells ty op ds)) (hn : ds'.length = ds.length) (h : ∀ (i : Nat) d d', ds[i]? = some d → ds'[i]? = some d' → Seals hp d d') : Seals hp (.pt l o) (.ps none ds' o)
  | agg (l l' : List D) (hn : l'.length = l.length) (h : ∀ (i : Nat) d d', l[i]? = some d → l'[i]? = some d' → Seals hp d d') : Seals hp (.agg l) (.agg l')
  | tup (l l' : List D) (hn : l'.length = l.length) (h : ∀ (i : Nat) d d', l[i]? = some d → l'[i]? = some d' → Seals hp d d') : Seals hp (.tup l) (.tup l')
  | fn (f : Fn) (a a' b b' : List D) (hn : a'.length = a.length) (hm : b'.length = b.length) (h1 : ∀ (i : Nat) d d', a[i]? = some d → a'[i]? = some d' → Seals hp d d') (h2 : ∀ (i : Nat) d d', b[i]? = some d → b'[i]? = some d' → Seals hp d d') :
      Seals hp (.fn f a b) (.fn f a' b')
  | ifc (t : TypeId) (d d' : D) (h : Seals hp d d') : Seals hp (.ifc t d) (.ifc t d')
  | nil (f : Bool) (sz : Nat) : Seals hp (.lit (.slice none 0 0)) (.sq f sz [])

/-- All that the state owns, as what does not change any more. -/
noncomputable def sealFz (M : Mem) (w : World) (b : Nat) : Option (Array Value) := by
  classical
  exact if ∃ l c, M.μ l = .blk b c then (match w.heap[b]? with
    | some (.cells c _ _) => some c
    | _ => M.fz b) else M.fz b

theorem sealFz_old {M : Mem} {w : World} (hi : Inv M w) {b : Nat} {c : Array Value} (h : M.fz b = some c) : sealFz M w b = some c := by
  unfold sealFz
  rw [if_neg (fun ⟨l, k, e⟩ => hi.sep b c h l k e)]
  exact h

theorem sealFz_own {M : Mem} {w : World} {b l k : Nat} {c : Array Value} {ty : TypeId} {fr : Nat × Nat} (h : M.μ l = .blk b k) (hw : w.heap[b]? = some (.cells c ty fr)) : sealFz M w b = some c := by
  unfold sealFz
  rw [if_pos ⟨l, k, h⟩, hw]

theorem sealFz_inv {M : Mem} {w : World} (hi : Inv M w) : Inv (Mem.none (sealFz M w)) w := by
  refine ⟨fun _ _ _ _ _ e => (by cases e), fun _ _ _ e => (by cases e), fun _ _ _ e => (by cases e), fun b c e => ?_, fun _ _ _ _ _ e => (by cases e)⟩
  have e : sealFz M w b = some c := e
  unfold sealFz at e
  split at e
  · split at e
    · rename_i hw
      cases e
      exact ⟨_, _, hw⟩
    · exact hi.fz b c e
  · exact hi.fz b c e

theorem sealFz_new {M : Mem} {w : World} {b : Nat} {c : Array Value} (h : sealFz M w b = some c) : M.fz b = some c ∨ ∃ l k, M.μ l = .blk b k := by
  unfold sealFz at h
  split at h
  · rename_i hx; exact .inr hx
  · exact .inl h

theorem belLL_row {rows : List (List D)} (hb : D.belLL 0 rows = true) {i : Nat} {r : List D} (hi : rows[i]? = some r) {j : Nat} {x : D} (hj : r[j]? = some x) : D.bel 0 x = true := belL_get 0 r j x (belLL_get 0 rows i r hb hi) hj

theorem flat_at {sz : Nat} {α : Type} : ∀ (rows : List (List α)), (∀ r, r ∈ rows → r.length = sz) → ∀ (i j : Nat) (r : List α) (x : α), rows[i]? = some r → r[j]? = some x → rows.flatten[i * sz + j]? = some x
  | [], _, i, j, r, x, h, _ => by simp at h
  | q :: rs, hz, i, j, r, x, h, hj => by
    have hq := hz q (by simp)
    cases i with
    | zero =>
      simp at h
      subst h
      rw [List.flatten_cons, Nat.zero_mul, Nat.zero_add, List.getElem?_append_left (List.getElem?_eq_some_iff.1 hj).1]
      exact hj
    | succ i =>
      rw [List.flatten_cons, List.getElem?_append_right (by rw [hq, Nat.add_mul]; omega), hq]
      have := flat_at rs (fun q' hq' => hz q' (by simp [hq'])) i j r x (by simpa using h) hj
      rw [show (i + 1) * sz + j - sz = i * sz + j by rw [Nat.add_mul]; omega]
      exact this

theorem Seals.ok {M : Mem} {hp : List (Nat × Blk)} {nx : Nat} {w : World} (hr : RH M { hp := toT hp, nx := nx } w) {d d' : D} (h : Seals hp d d') : ∀ {v : Value}, R M d v → R (Mem.none (sealFz M w)) d' v := by
  have old : ∀ {x : D} {v : Value}, R M x v → D.bel 0 x = true → R (Mem.none (sealFz M w)) x v := fun hx hb => hx.free hb (fun b c e => sealFz_old hr.inv e)
  have blk : ∀ {l : Nat} {ty : TypeId} {op : Option Nat} {ds : List D}, lk hp l = some (.cells ty op ds) → M.μ l ≠ .res → (∃ b c cur, M.μ l = .blk b c ∧ sealFz M w b = some cur ∧ ds.length ≤ cur.size ∧ (∀ (i : Nat) d, ds[i]? = some d → cur[i]? = some (cur.getD i undef) ∧ (cur.getD i undef).oneCell' = true ∧ R M d (cur.getD i undef))) ∨ (M.μ l = .nil ∧ ds = []) := by
    intro l ty op ds hl hres
    have hk := hr.hp l _ (by rw [get_toT]; exact hl)
    cases hμ : M.μ l with
    | dead => rw [hμ] at hk; exact hk.elim
    | res => exact absurd hμ hres
    | nil =>
      rw [hμ] at hk
      obtain ⟨_, _, hk⟩ := hk
      injection hk with _ _ hd
      exact .inr ⟨rfl, hd⟩
    | blk b c =>
      rw [hμ] at hk
      obtain ⟨cur, hc1, hc2, hc3⟩ := hk
      have hsz : ds.length ≤ cur.size := by
        cases op with
        | none => simp only at hc2; omega
        | some q => exact hc2.1
      refine .inl ⟨b, c, cur, rfl, sealFz_own hμ hc1, hsz, fun i d hi => ?_⟩
      have hlt : i < cur.size := Nat.lt_of_lt_of_le (List.getElem?_eq_some_iff.1 hi).1 hsz
      exact ⟨by simp [Array.getD, hlt], hc3 i d hi⟩
  induction h with
  | same d h => intro v hv; exact old hv h
  | sl l off len cap ty op ds sz rows src hl hn hz hs h ih =>
    intro v hv
    cases hv with
    | sl _ _ _ _ b k ha hk h0 hnk hm =>
    rcases blk hl ha.2.2.2 with ⟨b', c, cur, h1, h2, h3, h4⟩ | ⟨h1, _⟩
    · have := ha.2.1 b' c h1
      subst this
      subst hn
      exact .sq _ _ rows b' off k cur (fun i j => cur.getD (off + i * sz + j) undef) h2 hnk hm (by simp) hz
        (fun i r j x hi hj => ⟨(h4 _ _ (hs i j r x hi hj)).1, (h4 _ _ (hs i j r x hi hj)).2.1⟩)
        (fun i r j x hi hj => ih i j r x hi hj (h4 _ _ (hs i j r x hi hj)).2.2)
    · exact absurd h1 ha.2.2.1
  | ow l n ty op ds sz rows src hl hn hz hs h ih =>
    intro v hv
    cases hv with
    | ow _ _ _ hw =>
    obtain ⟨a, k, rfl, q1, q2, q3, q4, q5⟩ := hw.val
    rcases blk hl hw.nres with ⟨b', c, cur, h1, h2, h3, h4⟩ | ⟨h1, h2⟩
    · obtain ⟨rfl, rfl⟩ := q4 b' c h1
      subst hn
      exact .sq _ _ rows b' 0 k cur (fun i j => cur.getD (0 + i * sz + j) undef) h2 q1 q2 (by simp) hz
        (fun i r j x hi hj => by rw [Nat.zero_add]; exact ⟨(h4 _ _ (hs i j r x hi hj)).1, (h4 _ _ (hs i j r x hi hj)).2.1⟩)
        (fun i r j x hi hj => by rw [Nat.zero_add]; exact ih i j r x hi hj (h4 _ _ (hs i j r x hi hj)).2.2)
    · obtain ⟨rfl, rfl⟩ := q5 h1
      have : rows = [] := List.eq_nil_of_length_eq_zero hn
      subst this
      exact .sqn _ _ a
  | pt l o ty op ds ds' hl hn h ih =>
    intro v hv
    cases hv with
    | pt _ _ b ha =>
    rcases blk hl ha.2.2.2 with ⟨b', c, cur, h1, h2, h3, h4⟩ | ⟨h1, _⟩
    · have := ha.2.1 b' c h1
      subst this
      have get : ∀ (i : Nat) d', ds'[i]? = some d' → ∃ d, ds[i]? = some d := fun i d' hi => ⟨_, List.getElem?_eq_getElem (by rw [← hn]; exact (List.getElem?_eq_some_iff.1 hi).1)⟩
      rw [show (⟨b', o, none⟩ : Addr) = ⟨b', 0 + o, none⟩ by rw [Nat.zero_add]]
      exact .ps none ds' o b' 0 cur (fun j => cur.getD (0 + j) undef) h2 (fun _ e => by cases e)
        (fun j x hj => by obtain ⟨d, hd⟩ := get j x hj; rw [Nat.zero_add]; exact ⟨(h4 j d hd).1, (h4 j d hd).2.1⟩)
        (fun j x hj => by obtain ⟨d, hd⟩ := get j x hj; rw [Nat.zero_add]; exact ih j d x hd hj (h4 j d hd).2.2)
    · exact absurd h1 ha.2.2.1
  | agg l l' hn h ih =>
    intro v hv
    cases hv with
    | agg _ cs hs h1 h2 =>
    have get : ∀ (i : Nat) d', l'[i]? = some d' → ∃ d, l[i]? = some d := fun i d' hi => ⟨_, List.getElem?_eq_getElem (by rw [← hn]; exact (List.getElem?_eq_some_iff.1 hi).1)⟩
    exact .agg l' cs (by rw [hs, hn]) (fun i d' hi => let ⟨d, hd⟩ := get i d' hi; h1 i d hd) (fun i d' hi => let ⟨d, hd⟩ := get i d' hi; ih i d d' hd hi (h2 i d hd))
  | tup l l' hn h ih =>
    intro v hv
    cases hv with
    | tup _ vs hs h2 =>
    have get : ∀ (i : Nat) d', l'[i]? = some d' → ∃ d, l[i]? = some d := fun i d' hi => ⟨_, List.getElem?_eq_getElem (by rw [← hn]; exact (List.getElem?_eq_some_iff.1 hi).1)⟩
    exact .tup l' vs (by rw [hs, hn]) (fun i d' hi => let ⟨d, hd⟩ := get i d' hi; ih i d d' hd hi (h2 i d hd))
  | fn f a a' b b' hn hm h1 h2 ih1 ih2 =>
    intro v hv
    cases hv with
    | fn _ _ _ v1 v2 e1 e2 r1 r2 =>
    have ga : ∀ (i : Nat) d', a'[i]? = some d' → ∃ d, a[i]? = some d := fun i d' hi => ⟨_, List.getElem?_eq_getElem (by rw [← hn]; exact (List.getElem?_eq_some_iff.1 hi).1)⟩
    have gb : ∀ (i : Nat) d', b'[i]? = some d' → ∃ d, b[i]? = some d := fun i d' hi => ⟨_, List.getElem?_eq_getElem (by rw [← hm]; exact (List.getElem?_eq_some_iff.1 hi).1)⟩
    exact .fn f a' b' v1 v2 (by rw [e1, hn]) (by rw [e2, hm]) (fun i d' hi => let ⟨d, hd⟩ := ga i d' hi; ih1 i d d' hd hi (r1 i d hd)) (fun i d' hi => let ⟨d, hd⟩ := gb i d' hi; ih2 i d d' hd hi (r2 i d hd))
  | ifc t d d' h ih =>
    intro v hv
    cases hv with
    | ifc _ _ v h1 => exact .ifc t d' v (ih h1)
  | nil f sz => intro v hv; rw [hv.litE]; exact .sqn f sz none

/-- The marks are taken. -/
def takeL : List Nat → List (Nat × Blk) → Option (List (Nat × Blk))
  | [], hp => some hp
  | l :: r, hp => (match lk hp l with
    | some .dfr => takeL r (ldel hp l)
    | _ => none)

theorem RH.dropL {M : Mem} {s : S} {w w' : World} (hr : RH M s.H w) {l n c : Nat} (hl : M.μ l = .blk n c) (ho : w'.os = w.os) (htp : w'.tape = w.tape) (hou : w'.output = w.output) (hsz : w'.heap.size = w.heap.size) (hk : ∀ b, b ≠ n → w'.heap[b]? = w.heap[b]?) :
    ∃ M', RH M' { s with hp := ldel s.hp l }.H w' ∧ Ext M w M' w' := by
  obtain ⟨g1, g2⟩ := hr.drop (w' := w') hl ho htp hou hsz hk
  exact ⟨_, g1.same (fun m => by simp only [S.H, get_toT, lk_ldel, T.get_del]) rfl, g2⟩

/-- What is asked at the end of a function's body: K of what it tells, and of its memory; Kp of a panic. -/
def leavesK (P : Program) (fn : Func) (K Kp : D → S → Prop) : X → S → Prop
  | .normal, s => ∃ hp', takeL s.df s.hp = some hp' ∧ ∃ ds, resV P { s with hp := hp', df := [] } fn.results.toList = some ds ∧ resO P { s with hp := hp', df := [] } fn.results.toList ∧ K (packD ds) { s with hp := hp', df := [] }
  | .ret, s => ∃ hp', takeL s.df s.hp = some hp' ∧ ∃ ds, resV P { s with hp := hp', df := [] } fn.results.toList = some ds ∧ resO P { s with hp := hp', df := [] } fn.results.toList ∧ K (packD ds) { s with hp := hp', df := [] }
  | .panic d, s => s.df = [] ∧ Kp d s
  | _, _ => False

theorem df_nil {M : Mem} {s : S} {w : World} {a : Act} {zs : Nat → Value} (hr : SRep zs M s w a) (h : s.df = []) : a.defers = [] := by
  obtain ⟨bs, h1, h2, _⟩ := hr.df
  rw [h] at h2
  have : bs = [] := List.eq_nil_of_length_eq_zero (by simpa using h2)
  rw [h1, this]
  rfl

/-- What a function that ended has left. -/
def PostB (zs : Nat → Value) (I : Gh) (K Kp : D → S → Prop) (e : Ending) (w' : World) : Prop :=
  ∃ M' s' o a', SRep zs M' s' w' a' ∧ I.at s'.g M' w' ∧ OutR M' o e ∧ (match o with | .ret d => K d s' | .pan d => Kp d s')

theorem leavesL_ok {P : Program} {I : Gh} {zs : Nat → Value} {fn : Func} {K Kp : D → S → Prop} {dd : List D} : ∀ (ls : List Nat) (s : S) (M : Mem) (w : World) (a : Act) (hp' : List (Nat × Blk)), s.df = ls → SRep zs M s w a → I.at s.g M w → takeL ls s.hp = some hp' →
    resV P { s with hp := hp', df := [] } fn.results.toList = some dd → resO P { s with hp := hp', df := [] } fn.results.toList → K (packD dd) { s with hp := hp', df := [] } → LeavesInM (WF none) 0 P fn a.tmps (PostB zs I K Kp) a.defers .returning w
  | [], s, M, w, a, hp', hdf, hr, hg, ht, h1, h2, h3 => by
    simp only [takeL, Option.some.injEq] at ht
    subst ht
    have hr' : SRep zs M { s with df := [] } w { a with defers := [] } := ⟨hr.h, hr.sz, hr.t, ⟨[], rfl, rfl, fun i l e => by simp at e⟩, hr.ex⟩
    obtain ⟨v, k1, k2⟩ := resultsV_ok hr' fn h1 h2
    rw [df_nil hr hdf]
    exact ⟨v, k1, M, _, .ret (packD dd), _, hr', hg, ⟨v, rfl, k2⟩, h3⟩
  | l :: ls, s, M, w, a, hp', hdf, hr, hg, ht, h1, h2, h3 => by
    simp only [takeL] at ht
    split at ht
    case h_2 => cases ht
    rename_i hl
    obtain ⟨bs, b1, b2, b3⟩ := hr.df
    obtain ⟨b, hb, hat⟩ := b3 0 l (by rw [hdf]; rfl)
    cases bs with
    | nil => simp at hb
    | cons b' bs =>
    simp only [List.getElem?_cons_zero, Option.some.injEq] at hb
    subst hb
    obtain ⟨c, hμ, hbk⟩ := hr.h.look (l := l) (b := b') (k := .dfr) (by show (toT s.hp).get l = _; rw [get_toT]; exact hl) hat
    have hbk : w.heap[b']? = some (.deferred (some [])) := hbk
    have hlt : b' < w.heap.size := (Array.getElem?_eq_some_iff.1 hbk).1
    rw [b1]
    refine ⟨by simp, .inl ⟨b', w.putObj b' (.deferred none), rfl, run_takeDeferred hbk, ?_⟩⟩
    obtain ⟨M', g1, g2⟩ := hr.h.dropL (s := s) (w' := w.putObj b' (.deferred none)) hμ rfl rfl rfl (by simp [World.putObj]) (fun m hm => World.putObj_heap_other hm)
    have hr' : SRep zs M' { s with hp := ldel s.hp l, df := ls } (w.putObj b' (.deferred none)) { a with defers := bs.map (fun b => { target := .collected b, args := #[] }) } :=
      ⟨g1, hr.sz, fun t d e => (hr.t t d e).mono g2.le, ⟨bs, rfl, by simpa [hdf] using b2, fun i m e => by
        obtain ⟨q, q1, q2⟩ := b3 (i + 1) m (by rw [hdf]; exact e)
        exact ⟨q, q1, q2.mono g2.le⟩⟩, fun i d e => (hr.ex i d e).mono g2.le⟩
    exact leavesL_ok ls { s with hp := ldel s.hp l, df := ls } M' _ _ hp' rfl hr' (hg.mono g2.w) ht h1 h2 h3

/-- A function's body. -/
theorem calls_body {P : Program} {I : Gh} {zs : Nat → Value} {g : FuncId} {fn : Func} {c : Code} (hf : P.funcs[g]? = some fn) (hb : fn.body = some c) {K Kp : D → S → Prop} {s : S} {M : Mem} {w : World} {vs : Array Value}
    (h : W P none I c (leavesK P fn K Kp) s) (hr : SRep zs M s w { tmps := vs ++ Array.replicate (fn.ntmps - vs.size) undef, defers := [] }) (hg : I.at s.g M w) : Calls P g vs w (PostB zs I K Kp) := by
  refine (callsIn_wide (n := 0)).1 (callsIn_of_wp_marks (F := WF none) hf hb trivial (wpIn_mono (h none M w _ zs trivial hr hg) ?_))
  rintro e a' w' ⟨x, M', s', h1, h2, h3, h4, h5⟩
  cases x <;> cases e <;> simp only [RX, leavesK] at h1 h5
  · obtain ⟨hp', k1, ds, k2, k3, k4⟩ := h5
    exact leavesL_ok s'.df s' M' w' a' hp' rfl h2 h3 k1 k2 k3 k4
  · obtain ⟨hp', k1, ds, k2, k3, k4⟩ := h5
    exact leavesL_ok s'.df s' M' w' a' hp' rfl h2 h3 k1 k2 k3 k4
  · obtain ⟨k1, k2⟩ := h5
    obtain ⟨v, rfl, hv⟩ := h1
    show LeavesInM _ _ _ _ _ _ _ _ _
    rw [df_nil h2 k1]
    exact ⟨M', s', .pan _, a', h2, h3, ⟨v, rfl, hv⟩, k2⟩

/-- A function that owns nothing at first, and hands back what does not change. -/
theorem fnO_of {P : Program} {g : FuncId} {fn : Func} {c : Code} (hf : P.funcs[g]? = some fn) (hb : fn.body = some c) (he : enters P g = true) {args : List D} {o : Out} (hn : args.length ≤ fn.ntmps)
    (h : ∀ I, W P none I c (leavesK P fn (fun d s => ∃ d', Seals s.hp d d' ∧ o = .ret d') (fun d s => ∃ d', Seals s.hp d d' ∧ o = .pan d')) (start fn.ntmps args none)) : FnO P g args o := by
  refine .inl ⟨he, fun fz w vs hi hvs => (calls_body hf hb (M := Mem.none fz) (zs := fun _ => undef) (h (Gh.ext (Mem.none fz).img fz w)) ?_ (ExtO.refl _ _ _)).mono ?_⟩
  · refine ⟨⟨hi, fun l k e => (by simp [start, S.H, toT, T.get] at e), rfl⟩, by simp [start, hvs.1]; omega, fun t d ht => ?_, ⟨[], rfl, rfl, fun i l hl => by simp [start] at hl⟩, fun i d e => by simp [start] at e⟩
    obtain ⟨h1, h2⟩ := lk_argsL args 0 t d ht
    simp only [Nat.sub_zero] at h2
    have hlt : t < vs.size := by rw [hvs.1]; exact (List.getElem?_eq_some_iff.1 h2).1
    have := hvs.2 t d h2
    rwa [show (vs ++ Array.replicate (fn.ntmps - vs.size) undef).getD t undef = vs.getD t undef by
      simp only [Array.getD_eq_getD_getElem?]
      rw [Array.getElem?_append_left hlt]]
  · rintro e w' ⟨M', s', o', a', h1, h2, h3, h4⟩
    have h2 : ExtW (Mem.none fz) w M' w' := ExtO.w (M := Mem.none fz) h2
    have ext : ExtW (Mem.none fz) w (Mem.none (sealFz M' w')) w' := ⟨h2.os, h2.tape, h2.output, h2.size, h2.keep, fun _ _ _ e => (by cases e), fun b c e => sealFz_old h1.h.inv (h2.fz b c e), fun b c e => by
      rcases sealFz_new e with q | ⟨l, k, q⟩
      · exact h2.fznew b c q
      · rcases h2.new l b k q with ⟨_, _, q2⟩ | q2
        · cases q2
        · exact .inr (.inr q2)⟩
    have inv := sealFz_inv (w := w') h1.h.inv
    cases o' with
    | ret d =>
      obtain ⟨d', k1, rfl⟩ := h4
      obtain ⟨v, rfl, hv⟩ := h3
      exact ⟨_, ⟨v, rfl, k1.ok h1.h hv⟩, inv, ext⟩
    | pan d =>
      obtain ⟨d', k1, rfl⟩ := h4
      obtain ⟨v, rfl, hv⟩ := h3
      exact ⟨_, ⟨v, rfl, k1.ok h1.h hv⟩, inv, ext⟩
end Go.Ev
