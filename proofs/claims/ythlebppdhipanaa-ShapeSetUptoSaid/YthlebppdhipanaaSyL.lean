/-
  What does not change any more, within a function; functions that are called back; ranges over functions.
-/
import Derived.Test.YthlebppdhipanaaSyK
set_option linter.all false
namespace Go.Ev
open Go.Aw (WF enters callFunc_run callsIn_WF tiOf TIs tiOf_spec wpIn_loop_rel)

/-! ### Boxes that do not change any more -/
mutual
/-- With what leads to a name turned. -/
def D.sub (l : Nat) (X : Nat → D) : D → D
  | .pt m o => if m = l then X o else .pt m o
  | .agg ds => .agg (D.subL l X ds)
  | .fn f a b => .fn f (D.subL l X a) (D.subL l X b)
  | .ifc t d => .ifc t (D.sub l X d)
  | .tup ds => .tup (D.subL l X ds)
  | .gd c d => .gd c (D.sub l X d)
  | d => d
def D.subL (l : Nat) (X : Nat → D) : List D → List D
  | [] => []
  | d :: r => D.sub l X d :: D.subL l X r
end

theorem subL_get (l : Nat) (X : Nat → D) : ∀ (ds : List D) (i : Nat), (D.subL l X ds)[i]? = (ds[i]?).map (D.sub l X)
  | [], i => by simp [D.subL]
  | d :: r, 0 => by simp [D.subL]
  | d :: r, i + 1 => by simp [D.subL, subL_get l X r i]

theorem subL_length (l : Nat) (X : Nat → D) : ∀ ds : List D, (D.subL l X ds).length = ds.length
  | [] => rfl
  | d :: r => by simp [D.subL, subL_length l X r]

theorem subL_inv {l : Nat} {X : Nat → D} {ds : List D} {i : Nat} {d : D} (h : (D.subL l X ds)[i]? = some d) : ∃ e, ds[i]? = some e ∧ d = e.sub l X := by
  rw [subL_get, Option.map_eq_some_iff] at h
  obtain ⟨e, h1, h2⟩ := h
  exact ⟨e, h1, h2.symm⟩

theorem R.sub {M M' : Mem} {l b : Nat} {X : Nat → D} (hle : M.le M') (hμ : ∀ b', M.at l b' → b' = b) (hX : ∀ o, R M' (X o) (.pointer (some ⟨b, o, none⟩))) {d : D} {v : Value} (h : R M d v) : R M' (d.sub l X) v := by
  induction h with
  | agg ds cs hs h1 h ih => exact .agg _ cs (by rw [hs, subL_length]) (fun i d hi => let ⟨e, h3, _⟩ := subL_inv hi; h1 i e h3) (fun i d hi => by obtain ⟨e, h3, rfl⟩ := subL_inv hi; exact ih i e h3)
  | pt m o b' ha =>
    simp only [D.sub]
    split
    · rename_i hm
      subst hm
      rw [hμ b' ha]
      exact hX o
    · exact .pt m o b' (ha.mono hle)
  | fn f first caps v1 v2 h1 h2 r1 r2 ih1 ih2 =>
    exact .fn f _ _ v1 v2 (by rw [h1, subL_length]) (by rw [h2, subL_length]) (fun i d hi => by obtain ⟨e, h3, rfl⟩ := subL_inv hi; exact ih1 i e h3) (fun i d hi => by obtain ⟨e, h3, rfl⟩ := subL_inv hi; exact ih2 i e h3)
  | ifc t d v h ih => exact .ifc t _ v ih
  | tup ds vs hs h ih => exact .tup _ vs (by rw [hs, subL_length]) (fun i d hi => by obtain ⟨e, h3, rfl⟩ := subL_inv hi; exact ih i e h3)
  | gd c d v h1 h2 ih => exact .gd c _ v (fun hc => ih hc) h2
  | lit v h => exact .lit v h
  | sl m off len cap b' k ha hk h0 hn hm => exact R.mono hle (.sl m off len cap b' k ha hk h0 hn hm)
  | yl m b' ha => exact .yl m b' (ha.mono hle)
  | em a k h => exact .em a k h
  | un => exact .un
  | one v h => exact .one v h
  | any v => exact .any v
  | ow m n v ho => exact .ow m n v (ho.mono hle)
  | sqn f sz a => exact .sqn f sz a
  | sq f sz rows b' off k c V hb hn hm hf hz h1 h2 => exact R.mono hle (.sq f sz rows b' off k c V hb hn hm hf hz h1 h2)
  | ps q row o b' off c V hb hq h1 h2 => exact R.mono hle (.ps q row o b' off c V hb hq h1 h2)
  | con v h => exact .con v h
  | mp m b' ha => exact .mp m b' (ha.mono hle)

def Blk.sub (l : Nat) (X : Nat → D) : Blk → Blk
  | .cells a b ds => .cells a b (D.subL l X ds)
  | .map es => .map (es.map fun p => (p.1, D.sub l X p.2))
  | b => b

/-- The row of a box of its own block. -/
def frzRow (l b : Nat) (ds : List D) : List D := D.subL l (fun o => .con (.pointer (some ⟨b, o, none⟩))) ds

def mapV {α β : Type} (f : α → β) : List (Nat × α) → List (Nat × β)
  | [] => []
  | (k, x) :: r => (k, f x) :: mapV f r

theorem lk_mapV {α β : Type} (f : α → β) : ∀ (l : List (Nat × α)) (t : Nat), lk (mapV f l) t = (lk l t).map f
  | [], t => rfl
  | (k, x) :: r, t => by
    simp only [mapV, lk, lk_mapV f r t]
    split <;> rfl

/-- The state, a box of which does not change any more. -/
def S.frz (s : S) (l b : Nat) (ds : List D) : S :=
  { s with tm := mapV (D.sub l fun o => .ps (some b) (frzRow l b ds) o) s.tm, hp := mapV (Blk.sub l fun o => .ps (some b) (frzRow l b ds) o) (ldel s.hp l), ex := D.subL l (fun o => .ps (some b) (frzRow l b ds) o) s.ex }

theorem frz_ok {rl r : Option Nat} {s : S} {t l o : Nat} {ty : TypeId} {ds : List D} (ht : lk s.tm t = some (.pt l o)) (hl : lk s.hp l = some (.cells ty none ds)) {M : Mem} {w : World} {a : Act} {zs : Nat → Value} (hrl : RelR M rl r) (hr : SRep zs M s w a) :
    ∃ b M', SRep zs M' (s.frz l b ds) w a ∧ ExtW M w M' w ∧ RelR M' rl r := by
  have hp := hr.t t _ ht
  obtain ⟨b0, hat⟩ : ∃ b0, M.at l b0 := by
    generalize a.tmps.getD t undef = v at hp
    cases hp with
    | pt _ _ b ha => exact ⟨b, ha⟩
  obtain ⟨c, hμ, hbk⟩ := hr.h.look (l := l) (b := b0) (k := .cells ty none ds) (by show (toT s.hp).get l = _; rw [get_toT]; exact hl) hat
  obtain ⟨cur, hc1, hc2, hc3⟩ := hbk
  simp only at hc2
  let M' : Mem := { μ := fun k => if k = l then .dead else M.μ k, nx := M.nx, fz := fun x => if x = b0 then some cur else M.fz x }
  have hfz : ∀ b q, M.fz b = some q → M'.fz b = some q := fun b q e => by
    show (if b = b0 then some cur else M.fz b) = some q
    rw [if_neg (fun h => hr.h.inv.sep b q e l c (by rw [h]; exact hμ))]
    exact e
  have hle : M.le M' := ⟨Nat.le_refl _, fun m _ => by
    by_cases hm : m = l
    · exact .inr (.inl (if_pos hm))
    · exact .inl (if_neg hm), hfz⟩
  have old : ∀ m b k, M'.μ m = .blk b k → m ≠ l ∧ M.μ m = .blk b k := fun m b k e => by
    by_cases hm : m = l
    · rw [show M'.μ m = .dead from if_pos hm] at e; cases e
    · rw [show M'.μ m = M.μ m from if_neg hm] at e; exact ⟨hm, e⟩
  have hat' : ∀ b', M.at l b' → b' = b0 := fun b' h => (h.2.1 b0 c hμ).symm
  have hcell : ∀ (j : Nat) x, (frzRow l b0 ds)[j]? = some x → cur[0 + j]? = some (cur.getD j undef) ∧ (cur.getD j undef).oneCell' = true := fun j x hj => by
    obtain ⟨e, h1, _⟩ := subL_inv hj
    have hlt : j < cur.size := by rw [hc2]; exact (List.getElem?_eq_some_iff.1 h1).1
    exact ⟨by rw [Nat.zero_add]; simp [Array.getD, hlt], (hc3 j e h1).1⟩
  have hX : ∀ o, R M' (.ps (some b0) (frzRow l b0 ds) o) (.pointer (some ⟨b0, o, none⟩)) := fun o => by
    have : R M' (.ps (some b0) (frzRow l b0 ds) o) (.pointer (some ⟨b0, 0 + o, none⟩)) := .ps _ _ o b0 0 cur (fun j => cur.getD j undef) (if_pos rfl) (fun b' e => by cases e; exact ⟨rfl, rfl⟩) hcell (fun j x hj => by
      obtain ⟨e, h1, rfl⟩ := subL_inv hj
      exact (hc3 j e h1).2.sub hle hat' (fun o => .con _ rfl))
    rwa [Nat.zero_add] at this
  refine ⟨b0, M', ⟨⟨⟨fun m m' b k k' e e' => hr.h.inv.inj m m' b k k' (old _ _ _ e).2 (old _ _ _ e').2, fun m b k e => hr.h.inv.lt m b k (old _ _ _ e).2, fun m b k e => hr.h.inv.nx m b k (old _ _ _ e).2, fun b q e => ?_, fun b q e m k e' => ?_⟩, fun m k e => ?_, hr.h.nx⟩, hr.sz, fun u d e => ?_, ?_, fun i d e => ?_⟩,
    ⟨rfl, rfl, rfl, Nat.le_refl _, fun _ _ _ => rfl, fun m b k e => .inl ⟨m, k, (old _ _ _ e).2⟩, hfz, fun b q e => ?_⟩, hrl.mono hle⟩
  · by_cases hb : b = b0
    · subst hb
      rw [show M'.fz b = some cur from if_pos rfl] at e
      cases e
      exact ⟨_, _, hc1⟩
    · rw [show M'.fz b = M.fz b from if_neg hb] at e
      exact hr.h.inv.fz b q e
  · obtain ⟨h1, h2⟩ := old _ _ _ e'
    by_cases hb : b = b0
    · subst hb
      exact h1 (hr.h.inv.inj _ _ _ _ _ h2 hμ)
    · rw [show M'.fz b = M.fz b from if_neg hb] at e
      exact hr.h.inv.sep b q e m k h2
  · have e : lk (mapV (Blk.sub l fun o => .ps (some b0) (frzRow l b0 ds) o) (ldel s.hp l)) m = some k := by rw [← get_toT]; exact e
    rw [lk_mapV, Option.map_eq_some_iff] at e
    obtain ⟨k0, e1, rfl⟩ := e
    rw [lk_ldel] at e1
    by_cases hm : l = m
    · rw [if_pos hm] at e1; cases e1
    rw [if_neg hm] at e1
    have hk := hr.h.hp m k0 (by show (toT s.hp).get m = _; rw [get_toT]; exact e1)
    rw [show M'.μ m = M.μ m from if_neg (fun q => hm q.symm)]
    generalize M.μ m = p at hk
    cases p with
    | dead => exact hk
    | res => trivial
    | nil =>
      obtain ⟨ty', sz', rfl⟩ := hk
      exact ⟨ty', sz', rfl⟩
    | blk b k =>
      cases k0 with
      | cells ty' op ds' =>
        obtain ⟨cu, h1, h2, h3⟩ := hk
        refine ⟨cu, h1, by rw [subL_length]; exact h2, fun i d hi => ?_⟩
        obtain ⟨x, h4, rfl⟩ := subL_inv hi
        exact ⟨(h3 i x h4).1, (h3 i x h4).2.sub hle hat' hX⟩
      | dfr => exact RB.mono (k := .dfr) (c := k) hle rfl hk
      | loop L => exact RB.mono (k := .loop L) (c := k) hle rfl hk
      | mit ol x y z => exact RB.mono (k := .mit ol x y z) (c := k) hle rfl hk
      | map es =>
        obtain ⟨arr, h1, h2, h3⟩ := hk
        refine ⟨arr, by simpa using h1, by simpa using h2, fun i p hp => ?_⟩
        rw [List.getElem?_map, Option.map_eq_some_iff] at hp
        obtain ⟨p0, hp0, rfl⟩ := hp
        obtain ⟨x, q1, q2, q3, q4, q5⟩ := h3 i p0 hp0
        exact ⟨x, q1, q2, q3.sub hle hat' hX, q4, q5⟩
  · have e : lk (mapV (D.sub l fun o => .ps (some b0) (frzRow l b0 ds) o) s.tm) u = some d := e
    rw [lk_mapV, Option.map_eq_some_iff] at e
    obtain ⟨d0, e1, rfl⟩ := e
    exact (hr.t u d0 e1).sub hle hat' hX
  · obtain ⟨bs, h1, h2, h3⟩ := hr.df
    exact ⟨bs, h1, h2, fun i m e => let ⟨b, q1, q2⟩ := h3 i m e; ⟨b, q1, q2.mono hle⟩⟩
  · have e : (D.subL l (fun o => .ps (some b0) (frzRow l b0 ds) o) s.ex)[i]? = some d := e
    obtain ⟨d0, e1, rfl⟩ := subL_inv e
    exact (hr.ex i d0 e1).sub hle hat' hX
  · by_cases hb : b = b0
    · subst hb; exact .inr (.inl ⟨l, c, hμ⟩)
    · rw [show M'.fz b = M.fz b from if_neg hb] at e; exact .inl e

/-- From here on a box does not change any more. -/
theorem w_frz {P : Program} {rl : Option Nat} {I : Gh} {Q : X → S → Prop} {s : S} {c : Code} (t l : Nat) {o : Nat} {ty : TypeId} {ds : List D} (ht : lk s.tm t = some (.pt l o)) (hl : lk s.hp l = some (.cells ty none ds)) (h : ∀ b, W P rl I c Q (s.frz l b ds)) : W P rl I c Q s := by
  intro r M w a zs hrl hr hg
  obtain ⟨b, M', h1, h2, h3⟩ := frz_ok ht hl hrl hr
  exact h b r M' w a zs h3 h1 (hg.mono h2)

/-! ### Functions that are called back -/
/-- Blocks of one's own, blocks that do not change. -/
structure InvO (own : Nat → Prop) (f : Nat → Option (Array Value)) (w : World) : Prop where
  lt : ∀ b, own b → b < w.heap.size
  fz : ∀ b c, f b = some c → ∃ ty fr, w.heap[b]? = some (.cells c ty fr)
  sep : ∀ b c, f b = some c → ¬ own b

structure ExtL (f : Nat → Option (Array Value)) (w : World) (f' : Nat → Option (Array Value)) (w' : World) : Prop where
  os : w'.os = w.os
  tape : w'.tape = w.tape
  output : w'.output = w.output
  size : w.heap.size ≤ w'.heap.size
  fz : ∀ b c, f b = some c → f' b = some c

theorem ExtL.trans {f f1 f2 : Nat → Option (Array Value)} {w w1 w2 : World} (h : ExtL f w f1 w1) (k : ExtL f1 w1 f2 w2) : ExtL f w f2 w2 :=
  ⟨k.os.trans h.os, k.tape.trans h.tape, k.output.trans h.output, Nat.le_trans h.size k.size, fun b c e => k.fz b c (h.fz b c e)⟩

theorem Inv.o {M : Mem} {w : World} (h : Inv M w) : InvO M.img M.fz w := ⟨fun _ ⟨l, c, e⟩ => h.lt l _ c e, h.fz, fun b c e ⟨l, k, e'⟩ => h.sep b c e l k e'⟩

/-- What a call that may call back has left. -/
def PostG (I : Gh) (own : Nat → Prop) (f : Nat → Option (Array Value)) (w : World) (K : D → Option Nat → Prop) (e : Ending) (w' : World) : Prop :=
  ∃ f' g' d v, e = .returned v ∧ R (Mem.none f') d v ∧ D.bel 0 d = true ∧ InvO own f' w' ∧ (∀ b, own b → w'.heap[b]? = w.heap[b]?) ∧ ExtL f w f' w' ∧ I.p g' own f' w' ∧ K d g'

/-- **A function that may call back: it owns nothing of its caller's; from a ghost on.** -/
def FnG (P : Program) (I : Gh) (g : FuncId) (args : List D) (k : Option Nat) (K : D → Option Nat → Prop) : Prop :=
  enters P g = true ∧ ∀ own f w vs, InvO own f w → argsOk (Mem.none f) args vs → I.p k own f w → Calls P g vs w (PostG I own f w K)

/-- **A yield: of each item in its turn it may be told; it tells whether to go on.** -/
def YieldOk (P : Program) (I : Gh) (y : Value) (xs : List (List D)) : Prop :=
  ∃ b, y = .func (.yield b) #[] #[] ∧ ∀ (k : Nat) x, xs[k]? = some x → ∀ own f w vs, InvO own f w → argsOk (Mem.none f) x vs → I.p (some k) own f w →
    ∃ fn ts assign body, (Instr.yield b vs).run P w = .ok (.round b fn ts assign body) w ∧ ∀ q, RoundIn (WF q) 0 P b fn ts assign body w (PostG I own f w fun d g => ∃ t, d = .lit (.bool t) ∧ g = if t then some (k + 1) else none)

/-- The rest of the world, of a caller that has blocks of its own. -/
def Gh.frame (I : Gh) (own : Nat → Prop) (f0 : Nat → Option (Array Value)) (w0 : World) : Gh where
  p g own' f w := I.p g (fun b => own b ∨ own' b) f w ∧ (∀ b, own b → w.heap[b]? = w0.heap[b]?) ∧ (∀ b, own b → ¬ own' b) ∧ (∀ b, own b → b < w0.heap.size) ∧ (∀ b c, f b = some c → ¬ own b) ∧ ExtL f0 w0 f w
  st := by
    rintro g own' f w own'' f' w' ⟨h1, h2, h3, h4, h6, h7⟩ he
    refine ⟨I.st h1 ⟨he.os, he.tape, he.output, he.size, fun b hb hn => he.keep b hb (fun q => hn (.inr q)), fun b hb => ?_, he.fz, fun b c e => ?_⟩, fun b hb => ?_, fun b hb q => ?_, h4, fun b c e hb => ?_, h7.trans ⟨he.os, he.tape, he.output, he.size, he.fz⟩⟩
    · rcases hb with hb | hb
      · exact .inl (.inl hb)
      · exact (he.new b hb).imp .inr id
    · rcases he.fznew b c e with q | q | q
      · exact .inl q
      · exact .inr (.inl (.inr q))
      · exact .inr (.inr q)
    · rw [he.keep b (Nat.lt_of_lt_of_le (h4 b hb) h7.size) (h3 b hb)]; exact h2 b hb
    · rcases he.new b q with q | q
      · exact h3 b hb q
      · have := h4 b hb; have := h7.size; omega
    · rcases he.fznew b c e with q | q | q
      · exact h6 b c q hb
      · exact h3 b hb q
      · have := h4 b hb; have := h7.size; omega

theorem YieldOk.frame {P : Program} {I : Gh} {y : Value} {xs : List (List D)} (h : YieldOk P I y xs) (own : Nat → Prop) (f0 : Nat → Option (Array Value)) (w0 : World) : YieldOk P (I.frame own f0 w0) y xs := by
  obtain ⟨b, hb, h⟩ := h
  refine ⟨b, hb, fun k x hx own' f w vs hi hvs hp => ?_⟩
  obtain ⟨h1, h2, h3, h4, h6, h7⟩ := hp
  have hi' : InvO (fun b => own b ∨ own' b) f w := ⟨fun b hb => hb.elim (fun q => Nat.lt_of_lt_of_le (h4 b q) h7.size) (hi.lt b), hi.fz, fun b c e hb => hb.elim (h6 b c e) (hi.sep b c e)⟩
  obtain ⟨fn, ts, assign, body, k1, k2⟩ := h k x hx _ f w vs hi' hvs h1
  refine ⟨fn, ts, assign, body, k1, fun q => (k2 q).mono ?_⟩
  rintro e w' ⟨f', g', d, v, rfl, q1, q2, q3, q4, q5, q6, q7⟩
  exact ⟨f', g', d, v, rfl, q1, q2, ⟨fun b hb => q3.lt b (.inr hb), q3.fz, fun b c e hb => q3.sep b c e (.inr hb)⟩, fun b hb => q4 b (.inr hb), q5,
    ⟨q6, fun b hb => (q4 b (.inl hb)).trans (h2 b hb), h3, h4, fun b c e hb => q3.sep b c e (.inl hb), h7.trans q5⟩, q7⟩

/-- A state goes on in a memory that others have turned. -/
theorem SRep.turn {M : Mem} {s : S} {w w' : World} {a : Act} {zs : Nat → Value} (h : SRep zs M s w a) {f' : Nat → Option (Array Value)} (hi : InvO M.img f' w') (hk : ∀ b, M.img b → w'.heap[b]? = w.heap[b]?) (he : ExtL M.fz w f' w') (g' : Option Nat) :
    SRep zs { M with fz := f' } { s with g := g' } w' a ∧ M.le { M with fz := f' } := by
  have hle : M.le { M with fz := f' } := ⟨Nat.le_refl _, fun _ _ => .inl rfl, he.fz⟩
  have hh : RH { M with fz := f' } s.H w' := ⟨⟨h.h.inv.inj, fun l b c e => hi.lt b ⟨l, c, e⟩, h.h.inv.nx, hi.fz, fun b c e l k e' => hi.sep b c e ⟨l, k, e'⟩⟩, fun l k e => (h.h.hp l k e).mono hle (fun b c e2 => hk b ⟨l, c, e2⟩), h.h.nx⟩
  exact ⟨⟨hh, h.sz, fun t d e => (h.t t d e).mono hle, (let ⟨bs, h1, h2, h3⟩ := h.df; ⟨bs, h1, h2, fun i l e => let ⟨b, q1, q2⟩ := h3 i l e; ⟨b, q1, q2.mono hle⟩⟩), fun i d e => (h.ex i d e).mono hle⟩, hle⟩

/-- A function that may call back is called. -/
theorem callF_fnG {P : Program} {rl : Option Nat} {I : Gh} {g : FuncId} {args args' : List D} {s : S} {K Kp : D → S → Prop} {KG : D → Option Nat → Prop} (h : FnG P I g args' s.g KG) (ha : D.belL 0 args' = true)
    (hst : ∀ M w a zs, SRep zs M s w a → ∀ vs, argsOk M args vs → argsOk M args' vs) (hK : ∀ d g', D.bel 0 d = true → KG d g' → K d { s with g := g' }) : CallF P rl I g args s K Kp := by
  intro r M w a zs hrl hr hg vs hvs
  refine .inl ⟨h.1, (h.2 M.img M.fz w vs hr.h.inv.o (args_none (hst M w a zs hr vs hvs) ha) hg).mono ?_⟩
  rintro e w' ⟨f', g', d, v, rfl, q1, q2, q3, q4, q5, q6, q7⟩
  obtain ⟨k1, k2⟩ := hr.turn q3 q4 q5 g'
  exact ⟨_, _, .ret d, k1, q6, hrl.mono k2, ⟨v, rfl, q1.free q2 (fun _ _ h => h)⟩, hK d g' q2 q7⟩

/-- A yield is called. -/
theorem callCon_yield {P : Program} {rl : Option Nat} {I : Gh} {y : Value} {xs : List (List D)} (h : YieldOk P I y xs) {s : S} {k : Nat} {args : List D} (hg : s.g = some k) (hx : xs[k]? = some args) (ha : D.belL 0 args = true) {K Kp : D → S → Prop}
    (hK : ∀ t, K (.lit (.bool t)) { s with g := if t then some (k + 1) else none }) : CallCon P rl I y args s K Kp := by
  obtain ⟨b, hb, h⟩ := h
  refine ⟨b, hb, fun r M w a zs hrl hr hgh vs hvs => ?_⟩
  unfold Gh.at at hgh
  rw [hg] at hgh
  obtain ⟨fn, ts, assign, body, k1, k2⟩ := h k args hx M.img M.fz w vs hr.h.inv.o (args_none hvs ha) hgh
  refine ⟨fn, ts, assign, body, k1, fun q => (k2 q).mono ?_⟩
  rintro e w' ⟨f', g', d, v, rfl, q1, q2, q3, q4, q5, q6, t, rfl, rfl⟩
  obtain ⟨p1, p2⟩ := hr.turn q3 q4 q5 (if t then some (k + 1) else none)
  exact ⟨_, _, .ret _, p1, q6, hrl.mono p2, ⟨v, rfl, q1.free q2 (fun _ _ h => h)⟩, hK t⟩

/-- A function that may call back, from its body. -/
theorem fnG_of {P : Program} {I : Gh} {g : FuncId} {fn : Func} {c : Code} (hf : P.funcs[g]? = some fn) (hb : fn.body = some c) (he : enters P g = true) {args : List D} {k : Option Nat} {K : D → Option Nat → Prop} (hn : args.length ≤ fn.ntmps)
    (h : ∀ own f0 w0, W P none (I.frame own f0 w0) c (leavesK P fn (fun d s => D.bel 0 d = true ∧ K d s.g) (fun _ _ => False)) (start fn.ntmps args k)) : FnG P I g args k K := by
  refine ⟨he, fun own f w vs hi hvs hp => (calls_body hf hb (M := Mem.none f) (zs := fun _ => undef) (h own f w) ?_ ?_).mono ?_⟩
  · refine ⟨⟨⟨fun _ _ _ _ _ e => (by cases e), fun _ _ _ e => (by cases e), fun _ _ _ e => (by cases e), hi.fz, fun _ _ _ _ _ e => (by cases e)⟩, fun l k e => (by simp [start, S.H, toT, T.get] at e), rfl⟩, by simp [start, hvs.1]; omega, fun t d ht => ?_, ⟨[], rfl, rfl, fun i l hl => by simp [start] at hl⟩, fun i d e => by simp [start] at e⟩
    obtain ⟨h1, h2⟩ := lk_argsL args 0 t d ht
    simp only [Nat.sub_zero] at h2
    have hlt : t < vs.size := by rw [hvs.1]; exact (List.getElem?_eq_some_iff.1 h2).1
    have := hvs.2 t d h2
    rwa [show (vs ++ Array.replicate (fn.ntmps - vs.size) undef).getD t undef = vs.getD t undef by
      simp only [Array.getD_eq_getD_getElem?]
      rw [Array.getElem?_append_left hlt]]
  · refine ⟨I.st hp ⟨rfl, rfl, rfl, Nat.le_refl _, fun _ _ _ => rfl, fun b hb => ?_, fun _ _ e => e, fun _ _ e => .inl e⟩, fun _ _ => rfl, fun b _ ⟨l, c, e⟩ => (by cases e), hi.lt, hi.sep, rfl, rfl, rfl, Nat.le_refl _, fun _ _ e => e⟩
    rcases hb with hb | ⟨l, c, e⟩
    · exact .inl hb
    · cases e
  · rintro e w' ⟨M', s', o', a', h1, ⟨p1, p2, p3, p4, p6, p7⟩, h3, h4⟩
    cases o' with
    | pan d => exact h4.elim
    | ret d =>
      obtain ⟨v, rfl, hv⟩ := h3
      exact ⟨M'.fz, s'.g, d, v, rfl, hv.free h4.1 (fun _ _ e => e), h4.1, ⟨fun b hb => Nat.lt_of_lt_of_le (p4 b hb) p7.size, h1.h.inv.fz, p6⟩, p2, p7,
        I.st p1 ⟨rfl, rfl, rfl, Nat.le_refl _, fun _ _ _ => rfl, fun b hb => .inl (.inl hb), fun _ _ e => e, fun _ _ e => .inl e⟩, h4.2⟩
end Go.Ev
