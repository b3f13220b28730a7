/-
  Ranges over functions: the rounds; the rule.
-/
import Derived.Test.YthlebppdhipanaaSyM
set_option linter.all false
namespace Go.Ev
open Go.Aw (WF enters callFunc_run callsIn_WF tiOf TIs tiOf_spec wpIn_loop_rel)

/-- The state in which a round begins. -/
def S.round (s : S) (ps : Array Tmp) (x : List D) : S :=
  { n := s.n, tm := setPs ps.toList x s.tm, hp := s.hp, nx := s.nx + 1, df := [], g := s.g, ex := saveL s }

theorem rel_dead {M : Mem} {l b : Nat} (hl : l < M.nx) (h : M.μ l = .dead) : M.at l b := ⟨hl, fun b' c' e => (by rw [h] at e; cases e), by rw [h]; simp, by rw [h]; simp⟩

theorem frame_at {I : Gh} {g : Option Nat} {own own' : Nat → Prop} {f : Nat → Option (Array Value)} {w : World} (hp : I.p g (fun b => own b ∨ own' b) f w) (hd : ∀ b, own b → ¬ own' b) (hlt : ∀ b, own b → b < w.heap.size) (hs : ∀ b c, f b = some c → ¬ own b) : (I.frame own f w).p g own' f w :=
  ⟨hp, fun _ _ => rfl, hd, hlt, hs, rfl, rfl, rfl, Nat.le_refl _, fun _ _ e => e⟩

theorem Gh.sub (I : Gh) {g : Option Nat} {own own' : Nat → Prop} {f : Nat → Option (Array Value)} {w w' : World} (h : I.p g own f w) (ho : w'.os = w.os) (ht : w'.tape = w.tape) (hou : w'.output = w.output) (hs : w'.heap.size = w.heap.size) (hk : ∀ b, ¬ own b → w'.heap[b]? = w.heap[b]?) (hn : ∀ b, own' b → own b) : I.p g own' f w' :=
  I.st h ⟨ho, ht, hou, Nat.le_of_eq hs.symm, fun b _ hb => hk b hb, fun b hb => .inl (hn b hb), fun _ _ e => e, fun _ _ e => .inl e⟩

/-- A frame's state goes on where a block that is none of its own is turned. -/
theorem SRep.other {M : Mem} {s : S} {w w' : World} {a : Act} {zs : Nat → Value} (h : SRep zs M s w a) (bl : Nat) (hb : ¬ M.img bl) (hf : ∀ c, M.fz bl ≠ some c) (hs : w'.heap.size = w.heap.size) (hk : ∀ b, b ≠ bl → w'.heap[b]? = w.heap[b]?) : SRep zs M s w' a := by
  refine ⟨⟨⟨h.h.inv.inj, fun l b c e => by rw [hs]; exact h.h.inv.lt l b c e, h.h.inv.nx, fun b c e => ?_, h.h.inv.sep⟩, fun l k e => (h.h.hp l k e).mono (.refl M) (fun b c e2 => hk b (fun q => hb ⟨l, c, q ▸ e2⟩)), h.h.nx⟩, h.sz, h.t, h.df, h.ex⟩
  obtain ⟨ty, fr, e2⟩ := h.h.inv.fz b c e
  exact ⟨ty, fr, (hk b (fun q => hf c (q ▸ e))).trans e2⟩

theorem round_ok {P : Program} {I : Gh} {zs : Nat → Value} {a : Act} {bl : Nat} {fn0 : FuncId} {ps : Array Tmp} {assign body : Code} {dv : Nat} {F : Nat → S} {Q : X → S → Prop} {xs : List (List D)}
    (hps : ∀ x ∈ xs, x.length = ps.size) (hpl : ∀ k t, t ∈ ps.toList → t < (F k).n) (hky : ∀ k, keysOk (F k).tm = true) (hnx : ∀ k l q, lk (F k).hp l = some q → l < (F k).nx) (hbel : ∀ x ∈ xs, D.belL 0 x = true)
    (hround : ∀ k x, xs[k]? = some x → ∀ I', I.fr I' → W P (some (F k).nx) I' assign (fun e s => e = .normal ∧ ∀ I'', I.fr I'' → W P (some (F k).nx) I'' body (Rd (F k) (F (k + 1)) Q) s) ((F k).round ps x)) :
    YieldOk P (rangeGh I zs a bl (lrec fn0 a.tmps ps assign body dv) F Q) (.func (.yield bl) #[] #[]) xs := by
  refine ⟨bl, rfl, fun k x hx own f w vs hi hvs hp => ?_⟩
  obtain ⟨M, s, st, pe, h1, h2, h3, h4, h5, h6, h7, h8, h9, h10, rfl, rfl, rfl⟩ := hp
  have hxm := List.mem_of_getElem? hx
  have hbl : bl < w.heap.size := (Array.getElem?_eq_some_iff.1 h7).1
  refine ⟨fn0, _, assign, body, run_yield h7 (by show vs.size = ps.size; rw [hvs.1, hps x hxm]), fun q => roundIn_of_wpIn (F := WF q) trivial ?_⟩
  show assign.wpIn (WF (some bl)) 0 P _ _ w
  -- memory as the round sees it
  let M1 : Mem := { μ := fun l => if l = M.nx then .dead else M.μ l, nx := M.nx + 1, fz := f }
  have hμ : ∀ l, l < M.nx → M1.μ l = M.μ l := fun l hl => if_neg (by omega)
  have old : ∀ l b c, M1.μ l = .blk b c → M.μ l = .blk b c := fun l b c e => by
    by_cases hl : l = M.nx
    · rw [show M1.μ l = .dead from if_pos hl] at e; cases e
    · rw [show M1.μ l = M.μ l from if_neg hl] at e; exact e
  have himg : ∀ b, M1.img b ↔ M.img b := fun b => ⟨fun ⟨l, c, e⟩ => ⟨l, c, old l b c e⟩, fun ⟨l, c, e⟩ => ⟨l, c, (hμ l (h1.h.inv.nx _ _ _ e)).trans e⟩⟩
  have hle : M.le M1 := ⟨Nat.le_succ _, fun l hl => .inl (hμ l hl), h2⟩
  have hMnx : (F k).nx = M.nx := h1.h.nx
  obtain ⟨bs, d1, d2, d3⟩ := h1.df
  have hsz : vs.toList.length = x.length := by rw [Array.length_toList]; exact hvs.1
  obtain ⟨t1, t2⟩ := setPs_ok (M := M1) ps.toList x vs.toList (F k).tm a.tmps (fun t d e => (h1.t t d e).mono hle) (by rw [hsz]) (fun i d hi => by
    have := (hvs.2 i d hi).free (M' := M1) (belL_get 0 x i d (hbel x hxm) hi) (fun _ _ e => e)
    rwa [show vs.toList.getD i undef = vs.getD i undef from Aw.getD_list vs i]) (fun t ht => by rw [h1.sz]; exact hpl k t ht)
  have hfold : (ps.zip vs).foldl (fun tmps (p : Tmp × Value) => tmps.setIfInBounds p.1 p.2) a.tmps = (ps.toList.zip vs.toList).foldl (fun tmps (p : Tmp × Value) => tmps.setIfInBounds p.1 p.2) a.tmps := by rw [← Array.toList_zip, Array.foldl_toList]
  have hrep : SRep (saveZ (F k) a bs zs) M1 ((F k).round ps x) w { tmps := (ps.zip vs).foldl (fun tmps (p : Tmp × Value) => tmps.setIfInBounds p.1 p.2) a.tmps, defers := [] } := by
    refine ⟨⟨⟨fun l l' b c c' e e' => h1.h.inv.inj _ _ _ _ _ (old _ _ _ e) (old _ _ _ e'), fun l b c e => h1.h.inv.lt _ _ _ (old _ _ _ e), fun l b c e => Nat.lt_succ_of_lt (h1.h.inv.nx _ _ _ (old _ _ _ e)), hi.fz, fun b c e l q e' => h5 b c e ⟨l, q, old _ _ _ e'⟩⟩, fun l kb e => ?_, by show (F k).nx + 1 = M.nx + 1; rw [hMnx]⟩, ?_, ?_, ⟨[], rfl, rfl, fun i l e => by simp [S.round] at e⟩, fun i d e => (save_ok h1 (hky k) d2 d3 i d e).mono hle⟩
    · have hk := h1.h.hp l kb e
      have hln : l < M.nx := by
        rw [← hMnx]
        exact hnx k l kb (by rw [← get_toT]; exact e)
      rw [hμ l hln]
      exact hk.mono hle (fun _ _ _ => rfl)
    · rw [hfold, t2]; exact h1.sz
    · intro t d e
      rw [hfold]
      exact t1 t d e
  have hI1 : (I.frame (fun b => own b ∨ b = bl) f w).at (F k).g M1 w := by
    refine frame_at (I.sub h6 rfl rfl rfl rfl (fun _ _ => rfl) fun b hb => ?_) (fun b hb q => ?_) (fun b hb => ?_) fun b c e hb => ?_
    · rcases hb with (hb | hb) | hb
      · exact .inl hb
      · exact .inr (.inr hb)
      · exact .inr (.inl ((himg b).1 hb))
    · have q := (himg b).1 q
      rcases hb with hb | rfl
      · exact h3 b q hb
      · exact h9 q
    · rcases hb with hb | rfl
      · exact hi.lt b hb
      · exact hbl
    · rcases hb with hb | rfl
      · exact hi.sep b c e hb
      · exact h10 c e
  refine wpIn_mono (hround k x hx _ ⟨_, _, _, rfl⟩ (some bl) M1 w _ _ (rel_dead (by show (F k).nx < M.nx + 1; omega) (by rw [hMnx]; exact if_pos rfl)) hrep hI1) ?_
  rintro e a2 w2 ⟨X2, M2, s2, r1, r2, ⟨g1, g2, g3, g4, g5, g6⟩, r4, rfl, hbody⟩
  cases e <;> simp only [RX] at r1
  have p1 : w2.heap[bl]? = some (.loop (lrec fn0 a.tmps ps assign body dv .ready none)) := (g2 bl (.inr rfl)).trans h7
  have hbl2 : bl < w2.heap.size := (Array.getElem?_eq_some_iff.1 p1).1
  refine ⟨_, run_beginRound p1 rfl, ?_⟩
  let w3 : World := w2.putObj bl (.loop { lrec fn0 a.tmps ps assign body dv .ready none with state := .busy })
  have hw3 : ∀ b, b ≠ bl → w3.heap[b]? = w2.heap[b]? := fun b hb => World.putObj_heap_other hb
  have hs3 : w3.heap.size = w2.heap.size := by simp [w3, World.putObj]
  have n2 : ¬ M2.img bl := g3 bl (.inr rfl)
  have f2 : ∀ c, M2.fz bl ≠ some c := fun c e => g5 bl c e (.inr rfl)
  have hI3 : (I.frame (fun b => own b ∨ b = bl) M2.fz w3).at s2.g M2 w3 := by
    refine frame_at (I.sub g1 rfl rfl rfl hs3 (fun b hb => hw3 b (fun q => hb (.inl (.inr q)))) fun _ h => h) g3 (fun b hb => ?_) g5
    rw [hs3]
    exact Nat.lt_of_lt_of_le (g4 b hb) g6.size
  refine wpIn_mono (hbody _ ⟨_, _, _, rfl⟩ (some bl) M2 w3 a2 _ r4 (r2.other bl n2 f2 hs3 hw3) hI3) ?_
  rintro e a4 w4 ⟨X4, M4, s4, u1, u2, ⟨v1, v2, v3, v4, v5, v6⟩, u4, u5⟩
  have p3 : w3.heap[bl]? = some (.loop { lrec fn0 a.tmps ps assign body dv .ready none with state := .busy }) := World.putObj_heap_same hbl2
  have p4 : w4.heap[bl]? = some (.loop { lrec fn0 a.tmps ps assign body dv .ready none with state := .busy }) := (v2 bl (.inr rfl)).trans p3
  have hbl4 : bl < w4.heap.size := (Array.getElem?_eq_some_iff.1 p4).1
  have n4 : ¬ M4.img bl := v3 bl (.inr rfl)
  have f4 : ∀ c, M4.fz bl ≠ some c := fun c e => v5 bl c e (.inr rfl)
  -- the end of a round, whatever it has left
  have fin : ∀ (jump : Option Code) (M5 : Mem) (s5 : S) (g' : Option Nat) (t : Bool), (let w5 := w4.putObj bl (.loop { lrec fn0 a.tmps ps assign body dv .ready none with state := if jump.isNone then .ready else .done, pending := jump });
      SRep zs M5 s5 w5 a ∧ ExtW M4 w5 M5 w5 ∧ s5.g = s4.g ∧ jump.isNone = t ∧ g' = (if t then some (k + 1) else none) ∧ (match g' with
        | some k => s5 = F k ∧ (if jump.isNone then LoopState.ready else .done) = .ready ∧ jump = none
        | none => (if jump.isNone then LoopState.ready else .done) = .done ∧ ∃ x, (jumpX x = jump ∧ jump.isSome = true) ∧ Q x s5)) →
      ∃ v w', (Instr.endRound bl jump).run P w4 = .ok v w' ∧ PostG (rangeGh I zs a bl (lrec fn0 a.tmps ps assign body dv) F Q) own f w (fun d g => ∃ t, d = .lit (.bool t) ∧ g = if t then some (k + 1) else none) (.returned v) w' := by
    rintro jump M5 s5 g' t ⟨q1, q2, q3, q4, q5, q6⟩
    have hw5 : ∀ b, b ≠ bl → (w4.putObj bl (.loop { lrec fn0 a.tmps ps assign body dv .ready none with state := if jump.isNone then .ready else .done, pending := jump })).heap[b]? = w4.heap[b]? := fun b hb => World.putObj_heap_other hb
    have hs5 : (w4.putObj bl (.loop { lrec fn0 a.tmps ps assign body dv .ready none with state := if jump.isNone then .ready else .done, pending := jump })).heap.size = w4.heap.size := by simp [World.putObj]
    have hown : ∀ b, own b → b ≠ bl := fun b hb q => h8 (q ▸ hb)
    have i5 : ∀ b, M5.img b → M4.img b := fun b ⟨l, c, e⟩ => by
      rcases q2.new l b c e with ⟨l', c', e'⟩ | e'
      · exact ⟨l', c', e'⟩
      · have := q1.h.inv.lt l b c e; omega
    have z5 : ∀ b c, M5.fz b = some c → M4.fz b = some c ∨ M4.img b := fun b c e => by
      rcases q2.fznew b c e with e' | e' | e'
      · exact .inl e'
      · exact .inr e'
      · have := q1.h.inv.fzlt e; omega
    have s5own : ∀ b c, M5.fz b = some c → ¬ own b := fun b c e hb => by
      rcases z5 b c e with e' | e'
      · exact v5 b c e' (.inl hb)
      · exact v3 b (.inl hb) e'
    refine ⟨_, _, run_endRound jump p4, M5.fz, g', .lit (.bool t), _, rfl, by rw [q4]; exact .lit _ trivial, rfl, ⟨fun b hb => ?_, q1.h.inv.fz, s5own⟩, fun b hb => ?_, ?_, ?_, t, rfl, q5⟩
    · rw [hs5]
      exact Nat.lt_of_lt_of_le (v4 b (.inl hb)) v6.size
    · rw [hw5 b (hown b hb), v2 b (.inl hb), hw3 b (hown b hb), g2 b (.inl hb)]
    · exact ⟨v6.os.trans g6.os, v6.tape.trans g6.tape, v6.output.trans g6.output, Nat.le_trans g6.size (Nat.le_trans (Nat.le_of_eq hs3.symm) (Nat.le_trans v6.size (Nat.le_of_eq hs5.symm))), fun b c e => q2.fz b c (v6.fz b c (g6.fz b c e))⟩
    · refine ⟨M5, s5, _, _, q1, fun _ _ e => e, fun b hb => fun q => v3 b (.inl q) (i5 b hb), s5own, fun b c e ⟨l, q, e'⟩ => q1.h.inv.sep b c e l q e', ?_, World.putObj_heap_same hbl4, h8, fun q => n4 (i5 bl q), fun c e => ?_, q6⟩
      · rw [q3]
        refine I.st v1 ⟨rfl, rfl, rfl, Nat.le_of_eq hs5.symm, fun b _ hb => hw5 b (fun q => hb (.inl (.inr q))), fun b hb => ?_, q2.fz, fun b c e => ?_⟩
        · rcases hb with hb | hb | hb
          · exact .inl (.inl (.inl hb))
          · exact .inl (.inr (i5 b hb))
          · exact .inl (.inl (.inr hb))
        · rcases z5 b c e with e' | e'
          · exact .inl e'
          · exact .inr (.inl (.inr e'))
      · rcases z5 bl c e with e' | e'
        · exact f4 c e'
        · exact n4 e'
  have hback : okEx (F k) s4 → ∀ o, SRep zs M4 ((F k).back s4) (w4.putObj bl o) a := fun hx4 o => (back_ok h1.sz d1 d2 u2 hx4).other bl n4 f4 (by simp [World.putObj]) (fun b hb => World.putObj_heap_other hb)
  cases X4 <;> cases e <;> simp only [RX, Rd] at u1 u5
  · obtain ⟨x1, x2⟩ := u5
    obtain ⟨M5, y1, y2, _⟩ := x2.2 none M4 _ a zs trivial (hback x1 _)
    exact fin none M5 (F (k + 1)) (some (k + 1)) true ⟨y1, y2, x2.1, rfl, rfl, rfl, rfl, rfl⟩
  · obtain ⟨x1, x2⟩ := u5
    subst u1
    exact fin (some (.exit _)) M4 _ none false ⟨hback x1 _, ExtW.refl _ _, rfl, rfl, rfl, rfl, .exit _, ⟨rfl, rfl⟩, x2⟩
  · obtain ⟨x1, x2⟩ := u5
    exact fin (some .ret) M4 _ none false ⟨hback x1 _, ExtW.refl _ _, rfl, rfl, rfl, rfl, .ret, ⟨rfl, rfl⟩, x2⟩

/-- The state at the beginning of a range over a function. -/
def S.entered (s : S) : S := { s with hp := up s.hp s.nx .dfr, nx := s.nx + 1, df := s.nx :: s.df }

/-- No frame stands so. -/
def S.Bad (s : S) : Prop := ∀ zs M w a, ¬ SRep zs M s w a

/-- **A range over a function: its frame stands before round k as 'F k'.** -/
theorem w_rangeB {P : Program} {I : Gh} {Q : X → S → Prop} {s : S} {g : Operand} {ps : Array Tmp} {assign body : Code} {gg : FuncId} {first caps : List D} {xs : List (List D)} (F : Nat → S)
    (hg : s.val g = .fn (.func gg) first caps) (hb : D.belL 0 first = true ∧ D.belL 0 caps = true) (hit : IterOk P gg first caps xs) (h0 : s.entered.le none (F 0))
    (hps : ∀ x ∈ xs, x.length = ps.size) (hpl : ∀ k t, t ∈ ps.toList → t < (F k).n) (hky : ∀ k, keysOk (F k).tm = true) (hnx : ∀ k l q, lk (F k).hp l = some q → l < (F k).nx) (hbel : ∀ x ∈ xs, D.belL 0 x = true)
    (hround : ∀ k x, xs[k]? = some x → ∀ I', I.fr I' → W P (some (F k).nx) I' assign (fun e s => e = .normal ∧ ∀ I'', I.fr I'' → W P (some (F k).nx) I'' body (Rd (F k) (F (k + 1)) Q) s) ((F k).round ps x))
    (hend : (F xs.length).Bad ∨ Q .normal (F xs.length)) : W P none I (.rangeFunc g ps assign body) Q s := by
  intro r M w a zs hrl hr hgh
  cases r with
  | some _ => exact hrl.elim
  | none =>
  have hgv := hr.val g
  rw [hg] at hgv
  refine wpIn_rangeFunc fun fn _ => ?_
  generalize hv : a.eval g = fv at hgv
  cases hgv with
  | fn _ _ _ v1 v2 q1 q2 r1 r2 =>
  -- the mark, and the record
  have hd : ∀ M' : Mem, RB M' (w.alloc (.deferred (some []))) .dfr w.heap.size 0 := fun M' => Aw.halloc_new w _
  obtain ⟨g1, g2⟩ := hr.h.fresh (w' := w.alloc (.deferred (some []))) .dfr w.heap.size 0 rfl rfl rfl (by simp) (fun n hn => Aw.halloc_old w _ n hn) (by simp) (fun _ => hd _)
  have hsz : (w.alloc (.deferred (some []))).heap.size = w.heap.size + 1 := by simp
  let w1 : World := (w.alloc (.deferred (some []))).alloc (.loop (lrec fn a.tmps ps assign body w.heap.size .ready none))
  let a1 : Act := { a with defers := { target := .collected w.heap.size, args := #[] } :: a.defers }
  have hw1 : ∀ b, b < w.heap.size + 1 → w1.heap[b]? = (w.alloc (.deferred (some []))).heap[b]? := fun b hb => Aw.halloc_old _ _ b (by rw [hsz]; exact hb)
  have hbl : w1.heap[w.heap.size + 1]? = some (.loop (lrec fn a.tmps ps assign body w.heap.size .ready none)) := by
    have := Aw.halloc_new (w.alloc (.deferred (some []))) (.loop (lrec fn a.tmps ps assign body w.heap.size .ready none))
    rw [hsz] at this
    exact this
  have hs1 : w1.heap.size = w.heap.size + 2 := by simp [w1]
  let Me : Mem := M.set s.nx (.blk w.heap.size 0) (s.nx + 1)
  have hat : Me.at s.nx w.heap.size := ⟨by simp [Me, Mem.set], fun b' c' e => by simp [Me, Mem.set] at e; exact e.1.symm, by simp [Me, Mem.set]⟩
  have he1 : SRep zs Me s.entered w1 a1 := by
    have hlt : ∀ l b c, Me.μ l = .blk b c → b < w.heap.size + 1 := fun l b c e => by
      have := g1.inv.lt l b c e
      rw [hsz] at this
      exact this
    refine ⟨⟨⟨g1.inv.inj, fun l b c e => by have := hlt l b c e; omega, g1.inv.nx, fun b c e => ?_, g1.inv.sep⟩, fun l k e => ?_, g1.nx⟩, hr.sz, fun t d e => (hr.t t d e).mono g2.le, ?_, fun i d e => (hr.ex i d e).mono g2.le⟩
    · obtain ⟨ty, fr, e2⟩ := g1.inv.fz b c e
      exact ⟨ty, fr, (hw1 b (by have := (Array.getElem?_eq_some_iff.1 e2).1; rw [hsz] at this; exact this)).trans e2⟩
    · have e : (T.set (toT s.hp) s.nx .dfr).get l = some k := by
        rw [← toT_up]
        exact e
      exact (g1.hp l k e).mono (.refl _) (fun b c e2 => hw1 b (hlt l b c e2))
    · obtain ⟨bs, d1, d2, d3⟩ := hr.df
      refine ⟨w.heap.size :: bs, by simp [a1, d1], by simp [S.entered, d2], fun i l e => ?_⟩
      cases i with
      | zero => simp [S.entered] at e; subst e; exact ⟨_, rfl, hat⟩
      | succ i =>
        obtain ⟨b, e1, e2⟩ := d3 i l (by simpa [S.entered] using e)
        exact ⟨b, by simpa using e1, e2.mono g2.le⟩
  obtain ⟨M0, k1, k2, _⟩ := h0.2 none Me w1 a1 zs trivial he1
  have i0 : ∀ b, M0.img b → b < w.heap.size + 1 := fun b ⟨l, c, e⟩ => by
    rcases k2.new l b c e with ⟨l', c', e'⟩ | e'
    · have := g1.inv.lt l' b c' e'; rw [hsz] at this; exact this
    · have := k1.h.inv.lt l b c e; omega
  have z0 : ∀ b c, M0.fz b = some c → b < w.heap.size + 1 := fun b c e => by
    rcases k2.fznew b c e with e' | ⟨l', c', e'⟩ | e'
    · have := g1.inv.fzlt e'; rw [hsz] at this; exact this
    · have := g1.inv.lt l' b c' e'; rw [hsz] at this; exact this
    · have := k1.h.inv.fzlt e; omega
  -- its ghost
  let Ig := rangeGh I zs a1 (w.heap.size + 1) (lrec fn a.tmps ps assign body w.heap.size) F Q
  have hy : YieldOk P Ig (.func (.yield (w.heap.size + 1)) #[] #[]) xs := round_ok (a := a1) hps hpl hky hnx hbel hround
  have hIg : Ig.p (some 0) (fun _ => False) M0.fz w1 := by
    refine ⟨M0, F 0, .ready, none, k1, fun _ _ e => e, fun _ _ q => q, fun _ _ _ q => q, fun b c e ⟨l, q, e'⟩ => k1.h.inv.sep b c e l q e', ?_, hbl, fun q => q, fun q => by have := i0 _ q; omega, fun c e => by have := z0 _ c e; omega, rfl, rfl, rfl⟩
    rw [h0.1]
    refine I.st hgh ⟨rfl, rfl, rfl, by rw [hs1]; omega, fun b hb hn => ?_, fun b hb => ?_, fun b c e => k2.fz b c e, fun b c e => ?_⟩
    · rw [hw1 b (by omega)]
      exact Aw.halloc_old w _ b hb
    · rcases hb with hb | hb | hb
      · exact hb.elim
      · obtain ⟨l, c, e⟩ := hb
        rcases k2.new l b c e with ⟨l', c', e'⟩ | e'
        · rcases g2.new l' b c' e' with ⟨l2, c2, e2⟩ | e2
          · exact .inl ⟨l2, c2, e2⟩
          · exact .inr e2
        · right; omega
      · right; omega
    · rcases k2.fznew b c e with e' | ⟨l', c', e'⟩ | e'
      · exact .inl e'
      · rcases g2.new l' b c' e' with ⟨l2, c2, e2⟩ | e2
        · exact .inr (.inl ⟨l2, c2, e2⟩)
        · exact .inr (.inr e2)
      · exact .inr (.inr (by omega))
  obtain ⟨hent, hcall⟩ := hit Ig _ hy
  have hao : argsOk (Mem.none M0.fz) (first ++ (.con (.func (.yield (w.heap.size + 1)) #[] #[]) :: caps)) (v1 ++ (#[.func (.yield (w.heap.size + 1)) #[] #[]] ++ v2)) := by
    have mono : ∀ b c, M.fz b = some c → M0.fz b = some c := fun b c e => k2.fz b c (g2.fz b c e)
    refine argsOk_append ⟨q1, fun i d hi => (r1 i d hi).free (belL_get 0 first i d hb.1 hi) mono⟩ (argsOk_append (a := [_]) ⟨rfl, fun i d hi => ?_⟩ ⟨q2, fun i d hi => (r2 i d hi).free (belL_get 0 caps i d hb.2 hi) mono⟩)
    cases i with
    | zero => simp at hi; subst hi; exact .con _ rfl
    | succ i => simp at hi
  have hi0 : InvO (fun _ => False) M0.fz w1 := ⟨fun _ h => h.elim, k1.h.inv.fz, fun _ _ _ h => h⟩
  refine ⟨w.heap.size + 1, [{ target := .collected w.heap.size, args := #[] }], w1, { target := .fn (.func gg) v2, args := v1 ++ #[.func (.yield (w.heap.size + 1)) #[] #[]] }, w1, gg, v1 ++ #[.func (.yield (w.heap.size + 1)) #[] #[]] ++ v2, w1,
    run_enterLoop_outer fn a.tmps ps assign body, ?_, fun _ _ => trivial, ?_, fun h => by simp [WF] at h, callsIn_WF ((hcall _ _ _ _ hi0 (by rw [Array.append_assoc]; exact hao) hIg).mono ?_)⟩
  · have ha : (rangeCall g (w.heap.size + 1)).args.map a.eval = #[.func (.yield (w.heap.size + 1)) #[] #[]] := by simp [Act.eval]
    simp only [resolve, ha, hv, Deferred.ofValue, Sem.run_pure]
  · exact callFunc_run hent _ w1
  · rintro e w2 ⟨f', g', d, v, rfl, _, _, hi2, _, _, ⟨M2, s2, st, pe, c1, c2, c3, c4, c5, c6, c7, c8, c9, c10, c11⟩, hg'⟩
    have hlt2 : w.heap.size + 1 < w2.heap.size := (Array.getElem?_eq_some_iff.1 c7).1
    have hnb : st ≠ .busy := by
      rcases hg' with rfl | rfl
      · rw [c11.2.1]; simp
      · rw [c11.1]; simp
    refine ⟨pe, _, run_endLoop c7 hnb, ?_⟩
    -- the frame's state, in whatever memory the function has left
    let w3 : World := w2.putObj (w.heap.size + 1) (.loop { lrec fn a.tmps ps assign body w.heap.size st pe with state := .exhausted })
    have hw3 : ∀ b, b ≠ w.heap.size + 1 → w3.heap[b]? = w2.heap[b]? := fun b hb => World.putObj_heap_other hb
    have hs3 : w3.heap.size = w2.heap.size := by simp [w3, World.putObj]
    have hf : ∀ c, M2.fz (w.heap.size + 1) ≠ some c := fun c e => c10 c (c2 _ c e)
    obtain ⟨t1, t2⟩ := (c1.other (w' := w3) _ c9 hf hs3 hw3).turn (f' := f') (w' := w3) ⟨fun b ⟨l, c, e⟩ => by rw [hs3]; exact c1.h.inv.lt l b c e, fun b c e => (by
      obtain ⟨ty, fr, e2⟩ := hi2.fz b c e
      exact ⟨ty, fr, (hw3 b (fun q => c10 c (q ▸ e))).trans e2⟩), fun b c e q => c5 b c e q⟩ (fun _ _ => rfl) ⟨rfl, rfl, rfl, Nat.le_refl _, c2⟩ s2.g
    have hgf : I.at s2.g { M2 with fz := f' } w3 := I.sub c6 rfl rfl rfl hs3 (fun b hb => hw3 b (fun q => hb (.inr (.inr q)))) (fun b hb => .inr (.inl hb))
    rcases hg' with rfl | rfl
    · obtain ⟨rfl, rfl, rfl⟩ := c11
      rcases hend with hb | hend
      · exact (hb _ _ _ _ t1).elim
      · exact ⟨.normal, _, _, trivial, t1, hgf, trivial, hend⟩
    · obtain ⟨_, x, ⟨hx, hxs⟩, hq⟩ := c11
      cases x <;> simp only [jumpX] at hx
      · subst hx; cases hxs
      · subst hx
        exact wpIn_exit ⟨.exit _, _, _, rfl, t1, hgf, trivial, hq⟩
      · subst hx; cases hxs
      · subst hx
        exact wpIn_ret ⟨.ret, _, _, trivial, t1, hgf, trivial, hq⟩
      · subst hx; cases hxs
end Go.Ev
