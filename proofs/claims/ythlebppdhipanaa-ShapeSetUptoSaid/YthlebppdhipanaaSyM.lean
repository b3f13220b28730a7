/-
  Ranges over functions.
-/
import Derived.Test.YthlebppdhipanaaSyL
set_option linter.all false
namespace Go.Ev
open Go.Aw (WF enters callFunc_run callsIn_WF tiOf TIs tiOf_spec wpIn_loop_rel)

def setPs : List Tmp → List D → List (Nat × D) → List (Nat × D)
  | t :: ts, d :: ds, m => setPs ts ds (up m t d)
  | _, _, m => m

theorem setPs_ok {M : Mem} : ∀ (ts : List Tmp) (ds : List D) (vs : List Value) (m : List (Nat × D)) (tmps : Array Value), (∀ t d, lk m t = some d → R M d (tmps.getD t undef)) → ds.length = vs.length → (∀ (i : Nat) d, ds[i]? = some d → R M d (vs.getD i undef)) → (∀ t ∈ ts, t < tmps.size) →
    (∀ t d, lk (setPs ts ds m) t = some d → R M d (((ts.zip vs).foldl (fun tmps (p : Tmp × Value) => tmps.setIfInBounds p.1 p.2) tmps).getD t undef)) ∧ ((ts.zip vs).foldl (fun tmps (p : Tmp × Value) => tmps.setIfInBounds p.1 p.2) tmps).size = tmps.size
  | [], ds, vs, m, tmps, h, _, _, _ => ⟨by simpa [setPs] using h, by simp⟩
  | t :: ts, [], [], m, tmps, h, _, _, _ => ⟨by simpa [setPs] using h, by simp⟩
  | t :: ts, [], _ :: _, m, tmps, h, hl, _, _ => by simp at hl
  | t :: ts, _ :: _, [], m, tmps, h, hl, _, _ => by simp at hl
  | t :: ts, d :: ds, v :: vs, m, tmps, h, hl, hr, ht => by
    simp only [setPs, List.zip_cons_cons, List.foldl_cons]
    have hts : t < tmps.size := ht t (by simp)
    obtain ⟨k1, k2⟩ := setPs_ok ts ds vs (up m t d) (tmps.setIfInBounds t v) (fun u e hu => by
      rw [lk_up] at hu
      by_cases hk : t = u
      · subst hk
        rw [if_pos rfl] at hu
        cases hu
        have := hr 0 d rfl
        simpa [Array.getD, hts] using this
      · rw [if_neg hk] at hu
        have := h u e hu
        rwa [show (tmps.setIfInBounds t v).getD u undef = tmps.getD u undef by simp [Array.getD_eq_getD_getElem?, Array.getElem?_setIfInBounds_ne hk]]) (by simpa using hl) (fun i d hi => by have := hr (i + 1) d (by simpa using hi); simpa using this) (fun u hu => by simpa using ht u (by simp [hu]))
    exact ⟨k1, by rw [k2]; simp⟩

def isYl : D → Bool
  | .yl _ => true
  | _ => false
def ylN : D → Nat
  | .yl l => l
  | _ => 0

/-- What a frame keeps while its rounds are run: its slots, its marks, what was kept before. -/
def saveL (s : S) : List D := s.tm.map (·.2) ++ (s.df.map D.yl ++ s.ex)

def zipK : List (Nat × D) → List D → List (Nat × D)
  | (k, _) :: r, d :: ds => (k, d) :: zipK r ds
  | _, _ => []

/-- The frame's state behind a round. -/
def S.back (s0 s : S) : S :=
  { n := s0.n, tm := zipK s0.tm s.ex, hp := s.hp, nx := s.nx, df := ((s.ex.drop s0.tm.length).take s0.df.length).map ylN, g := s.g, ex := s.ex.drop (s0.tm.length + s0.df.length) }

def okEx (s0 s : S) : Prop := s.ex.length = (saveL s0).length ∧ ((s.ex.drop s0.tm.length).take s0.df.length).all isYl = true

/-- The values of what is kept. -/
def saveZ (s : S) (a : Act) (bs : List Nat) (zs : Nat → Value) (i : Nat) : Value :=
  match s.tm[i]? with
  | some p => a.tmps.getD p.1 undef
  | none => match bs[i - s.tm.length]? with
    | some b => .func (.yield b) #[] #[]
    | none => zs (i - (s.tm.length + bs.length))

theorem lk_zipK : ∀ (l : List (Nat × D)) (ds : List D) (t : Nat) (d : D), lk (zipK l ds) t = some d → ∃ (i : Nat) (p : Nat × D), l[i]? = some p ∧ p.1 = t ∧ ds[i]? = some d
  | [], _, t, d, h => by simp [zipK, lk] at h
  | (k, _) :: r, [], t, d, h => by simp [zipK, lk] at h
  | (k, e) :: r, x :: ds, t, d, h => by
    simp only [zipK, lk] at h
    split at h
    · rename_i hk
      cases h
      exact ⟨0, (k, e), rfl, hk, rfl⟩
    · obtain ⟨i, p, h1, h2, h3⟩ := lk_zipK r ds t d h
      exact ⟨i + 1, p, by simpa using h1, h2, by simpa using h3⟩

/-- Each slot is told of once. -/
def keysOk : List (Nat × D) → Bool
  | [] => true
  | (k, _) :: r => r.all (fun p => decide (p.1 ≠ k)) && keysOk r

theorem keysOk_lk : ∀ (l : List (Nat × D)), keysOk l = true → ∀ (i : Nat) (p : Nat × D), l[i]? = some p → lk l p.1 = some p.2
  | [], _, i, p, h => by simp at h
  | (k, e) :: r, hk, 0, p, h => by simp at h; subst h; simp [lk]
  | (k, e) :: r, hk, i + 1, p, h => by
    simp only [keysOk, Bool.and_eq_true, List.all_eq_true, decide_eq_true_eq] at hk
    have hp : r[i]? = some p := by simpa using h
    simp only [lk]
    rw [if_neg (fun q => hk.1 p (List.mem_of_getElem? hp) q.symm)]
    exact keysOk_lk r hk.2 i p hp

theorem save_ok {M : Mem} {s : S} {w : World} {a : Act} {zs : Nat → Value} (hr : SRep zs M s w a) (hk : keysOk s.tm = true) {bs : List Nat} (h2 : bs.length = s.df.length) (h3 : ∀ (i : Nat) (l : Nat), s.df[i]? = some l → ∃ b : Nat, bs[i]? = some b ∧ M.at l b) :
    ∀ (i : Nat) d, (saveL s)[i]? = some d → R M d (saveZ s a bs zs i) := by
  intro i d hi
  unfold saveL at hi
  unfold saveZ
  by_cases h1 : i < s.tm.length
  · rw [List.getElem?_append_left (by simpa using h1), List.getElem?_map, Option.map_eq_some_iff] at hi
    obtain ⟨p, hp, rfl⟩ := hi
    rw [hp]
    exact hr.t p.1 p.2 (keysOk_lk _ hk i p hp)
  · rw [List.getElem?_eq_none (by omega)]
    rw [List.getElem?_append_right (by simpa using h1), List.length_map] at hi
    by_cases h4 : i - s.tm.length < s.df.length
    · rw [List.getElem?_append_left (by simpa using h4), List.getElem?_map, Option.map_eq_some_iff] at hi
      obtain ⟨l, hl, rfl⟩ := hi
      obtain ⟨b, hb, hat⟩ := h3 _ l hl
      simp only [hb]
      exact .yl l b hat
    · rw [List.getElem?_append_right (by simpa using h4), List.length_map] at hi
      have hbn : bs[i - s.tm.length]? = none := List.getElem?_eq_none (by omega)
      simp only [hbn]
      rw [h2, Nat.add_comm, ← Nat.sub_sub, Nat.sub_right_comm]
      exact hr.ex _ d hi

theorem back_ok {M' : Mem} {s0 s : S} {w' : World} {a a' : Act} {zs : Nat → Value} (hr0 : a.tmps.size = s0.n) {bs : List Nat} (h1 : a.defers = bs.map (fun b => { target := .collected b, args := #[] })) (h2 : bs.length = s0.df.length)
    (hr : SRep (saveZ s0 a bs zs) M' s w' a') (hx : okEx s0 s) : SRep zs M' (s0.back s) w' a := by
  obtain ⟨hx1, hx2⟩ := hx
  have hlen : s.ex.length = s0.tm.length + (s0.df.length + s0.ex.length) := by rw [hx1]; simp [saveL]
  refine ⟨hr.h, hr0, fun t d h => ?_, ⟨bs, h1, ?_, fun i l h => ?_⟩, fun i d h => ?_⟩
  · obtain ⟨i, p, e1, e2, e3⟩ := lk_zipK _ _ t d h
    have := hr.ex i d e3
    unfold saveZ at this
    rw [e1] at this
    rw [← e2]
    exact this
  · simp [S.back, h2]; omega
  · simp only [S.back, List.getElem?_map, Option.map_eq_some_iff] at h
    obtain ⟨d, hd, rfl⟩ := h
    have hy := List.all_eq_true.1 hx2 d (List.mem_of_getElem? hd)
    have hi : i < s0.df.length := by
      have := (List.getElem?_eq_some_iff.1 hd).1
      simp at this; omega
    rw [List.getElem?_take_of_lt hi, List.getElem?_drop] at hd
    have := hr.ex _ d hd
    unfold saveZ at this
    have hb : bs[i]? = some bs[i] := List.getElem?_eq_getElem (by omega)
    rw [List.getElem?_eq_none (by omega), show s0.tm.length + i - s0.tm.length = i by omega] at this
    simp only [hb] at this
    refine ⟨bs[i], hb, ?_⟩
    cases d <;> simp only [isYl, Bool.false_eq_true] at hy
    cases this with
    | yl l b ha => exact ha
  · simp only [S.back, List.getElem?_drop] at h
    have := hr.ex _ d h
    unfold saveZ at this
    rw [List.getElem?_eq_none (by omega)] at this
    have hbn : bs[s0.tm.length + s0.df.length + i - s0.tm.length]? = none := List.getElem?_eq_none (by omega)
    simp only [hbn] at this
    rwa [show s0.tm.length + s0.df.length + i - (s0.tm.length + bs.length) = i by omega] at this

/-- A ghost beside blocks that are another's. -/
def Gh.fr (I I' : Gh) : Prop := ∃ own f0 w0, I' = I.frame own f0 w0

theorem YieldOk.fr {P : Program} {I I' : Gh} {y : Value} {xs : List (List D)} (h : YieldOk P I y xs) (hf : I.fr I') : YieldOk P I' y xs := by
  obtain ⟨own, f0, w0, rfl⟩ := hf
  exact h.frame own f0 w0

/-- **A function that yields the items, one by one, till it is told to stop.** -/
def IterOk (P : Program) (g : FuncId) (first caps : List D) (xs : List (List D)) : Prop :=
  ∀ I y, YieldOk P I y xs → FnG P I g (first ++ (.con y :: caps)) (some 0) fun _ g' => g' = some xs.length ∨ g' = none

/-- What a round has left. -/
def Rd (s0 s1 : S) (Q : X → S → Prop) : X → S → Prop
  | .normal, s => okEx s0 s ∧ (s0.back s).le none s1
  | .exit i, s => okEx s0 s ∧ Q (.exit i) (s0.back s)
  | .ret, s => okEx s0 s ∧ Q .ret (s0.back s)
  | _, _ => False

def jumpX : X → Option Code
  | .exit i => some (.exit i)
  | .ret => some .ret
  | _ => none

/-- A record of a range over a function. -/
def lrec (fn : FuncId) (ts : Array Value) (ps : Array Tmp) (assign body : Code) (dv : Nat) (st : LoopState) (pe : Option Code) : Loop := { state := st, pending := pe, fn := fn, tmps := ts, params := ps, assign := assign, body := body, defers := dv }

/-- The ghost of a range: where its frame is. -/
def rangeGh (I : Gh) (zs : Nat → Value) (a : Act) (bl : Nat) (rc : LoopState → Option Code → Loop) (F : Nat → S) (Q : X → S → Prop) : Gh where
  p g own f w := ∃ M s st pe, SRep zs M s w a ∧ (∀ b c, M.fz b = some c → f b = some c) ∧ (∀ b, M.img b → ¬ own b) ∧ (∀ b c, M.fz b = some c → ¬ own b) ∧ (∀ b c, f b = some c → ¬ M.img b) ∧ I.p s.g (fun b => own b ∨ M.img b ∨ b = bl) f w ∧
    w.heap[bl]? = some (.loop (rc st pe)) ∧ ¬ own bl ∧ ¬ M.img bl ∧ (∀ c, f bl ≠ some c) ∧ (match g with
      | some k => s = F k ∧ st = .ready ∧ pe = none
      | none => st = .done ∧ ∃ x, (jumpX x = pe ∧ pe.isSome = true) ∧ Q x s)
  st := by
    rintro g own f w own' f' w' ⟨M, s, st, pe, h1, h2, h3, h4, h5, h6, h7, h8, h9, h10, h11⟩ he
    have hbl : bl < w.heap.size := (Array.getElem?_eq_some_iff.1 h7).1
    have hM : ∀ b, M.img b → w'.heap[b]? = w.heap[b]? := fun b hb => he.keep b (h1.h.inv.o.lt b hb) (h3 b hb)
    refine ⟨M, s, st, pe, ⟨⟨⟨h1.h.inv.inj, fun l b c e => Nat.lt_of_lt_of_le (h1.h.inv.lt l b c e) he.size, h1.h.inv.nx, fun b c e => ?_, h1.h.inv.sep⟩, fun l k e => (h1.h.hp l k e).mono (.refl M) (fun b c e2 => hM b ⟨l, c, e2⟩), h1.h.nx⟩, h1.sz, h1.t, h1.df, h1.ex⟩,
      fun b c e => he.fz b c (h2 b c e), fun b hb q => ?_, fun b c e q => ?_, fun b c e q => ?_, I.st h6 ⟨he.os, he.tape, he.output, he.size, fun b hb hn => he.keep b hb (fun q => hn (.inl q)), fun b hb => ?_, he.fz, fun b c e => ?_⟩, (he.keep bl hbl h8).trans h7, fun q => ?_, h9, fun c e => ?_, h11⟩
    · obtain ⟨ty, fr, e2⟩ := h1.h.inv.fz b c e
      exact ⟨ty, fr, (he.keep b (Array.getElem?_eq_some_iff.1 e2).1 (h4 b c e)).trans e2⟩
    · rcases he.new b q with q | q
      · exact h3 b hb q
      · have := h1.h.inv.o.lt b hb; omega
    · rcases he.new b q with q | q
      · exact h4 b c e q
      · have := h1.h.inv.fzlt e; omega
    · rcases he.fznew b c e with r | r | r
      · exact h5 b c r q
      · exact h3 b q r
      · have := h1.h.inv.o.lt b q; omega
    · rcases hb with hb | hb
      · exact (he.new b hb).imp .inl id
      · exact .inl (.inr hb)
    · rcases he.fznew b c e with r | r | r
      · exact .inl r
      · exact .inr (.inl (.inl r))
      · exact .inr (.inr r)
    · rcases he.new bl q with q | q
      · exact h8 q
      · omega
    · rcases he.fznew bl c e with r | r | r
      · exact h10 c r
      · exact h8 r
      · omega
end Go.Ev
