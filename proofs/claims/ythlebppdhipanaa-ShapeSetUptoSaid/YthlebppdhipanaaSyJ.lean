/-
  Regions that draw their order.
-/
import Derived.Test.YthlebppdhipanaaSyI
set_option linter.all false
namespace Go.Ev
open Go.Aw (WF enters)

def isBig : Op → Bool
  | .alloc _ => true
  | .box _ _ => true
  | .buildSlice _ _ _ => true
  | .makeSlice _ _ _ => true
  | .store _ _ _ => true
  | .call c => (match c.callee with
    | .builtin .append => true
    | _ => false)
  | _ => false

/-- Does it look at memory, or write it? -/
def heapy : Op → Bool
  | .load _ _ => true
  | .binOp _ _ _ _ _ => true
  | op => isBig op

/-- Does it only make what is new? -/
def isAl : Op → Bool
  | .alloc _ => true
  | .box _ _ => true
  | .buildSlice _ _ _ => true
  | .makeSlice _ _ _ => true
  | _ => false

/-- More is known. -/
def HLe (h h' : H) : Prop := ∀ l k, h.hp.get l = some k → h'.hp.get l = some k

theorem HLe.refl (h : H) : HLe h h := fun _ _ e => e
theorem HLe.trans {h h1 h2 : H} (a : HLe h h1) (b : HLe h1 h2) : HLe h h2 := fun l k e => b l k (a l k e)

def isStore (o : Oper) : Bool :=
  match o.op, o.guard, o.dst with
  | .store _ _ _, none, none => true
  | _, _, _ => false

/-- Do two stores stand last? -/
def tailPair (ops : List Oper) : Bool :=
  match ops.drop (ops.length - 2) with
  | [a, b] => isStore a && isStore b
  | _ => false

def inTail (n i j : Nat) : Bool := (Nat.beq (i + 2) n && Nat.beq (j + 1) n) || (Nat.beq (j + 2) n && Nat.beq (i + 1) n)

/-- All that is asked of a region once and for all; of two stores that stand last, where 'tl' says so, no order. -/
def pairOk (tl : Bool) (gd : Nat → Option Tmp) (as : List Nat) (ops : List Oper) (i j : Nat) : Bool :=
  match ops[i]?, ops[j]? with
  | some o, some q => Nat.beq i j || ((match q.dst with
      | some t => (!(looks o gd).contains t || (bif Nat.blt j i then Nat.testBit (as.getD i 0) j else Nat.testBit (as.getD j 0) i)) && (match o.dst with
        | some u => !Nat.beq t u
        | none => true)
      | none => true) && (!(heapy o.op && isBig q.op) || (((tl && inTail ops.length i j) || (!isBig o.op && (isAl q.op && Nat.blt i j))) || (bif Nat.blt j i then Nat.testBit (as.getD i 0) j else Nat.testBit (as.getD j 0) i))))
  | _, _ => true

def orderB (tl : Bool) (ops : List Oper) : Bool :=
  match ancsGo ops [] with
  | some as => (List.range ops.length).all fun i => (List.range ops.length).all fun j => pairOk tl (fun j => (ops[j]?).bind (·.dst)) as ops i j
  | none => false

def orderOk (ops : List Oper) : Bool := orderB false ops
def orderT (ops : List Oper) : Bool := orderB (tailPair ops) ops

/-- One operation, wherever it is done. -/
structure StepOK (P : Program) (rl : Option Nat) (ops : List Oper) (o : Oper) (s : S) (d : D) (s' : S) : Prop where
  n : s'.n = s.n
  df : s'.df = s.df
  g : s'.g = s.g
  ex : s'.ex = s.ex
  room : s.room o.dst
  tm : s'.tm = (s.put o.dst d).tm
  heap : isBig o.op = false → s'.H = s.H
  grow : isAl o.op = true → HLe s.H s'.H
  run : ∀ r M w (a : Act) h, RelR M rl r → RH M h w → (isBig o.op = true → h = s.H) → (heapy o.op = true → HLe s.H h) → a.tmps.size = s.n → (∀ t ∈ looks o (fun j => (ops[j]?).bind (·.dst)), ∀ x, lk s.tm t = some x → R M x (a.tmps.getD t undef)) →
    ∀ (next : Act → World → Prop) (Q : Exit → Act → World → Prop), (∀ M' w' v, RH M' (bif isBig o.op then s'.H else h) w' → R M' d v → Ext M w M' w' → next (a.put o.dst v) w') →
      (if Region.wanted o (yielded ops.toArray a.tmps) then o.wpIn (WF r) 0 P a w next Q else (∀ f, o.about P w a.eval = some f → (WF r).fn f) ∧ next (a.put o.dst undef) w)

theorem tm_at {P : Program} {rl : Option Nat} {ops : List Oper} {st : Nat → S} {val : Nat → D} (hst : ∀ (i : Nat) (o : Oper), ops[i]? = some o → StepOK P rl ops o (st i) (val i) (st (i + 1)))
    (hu : ∀ (i j : Nat) (o q : Oper) (t : Tmp), ops[i]? = some o → ops[j]? = some q → o.dst = some t → q.dst = some t → i = j) : ∀ i, i ≤ ops.length → ∀ t x, lk (st i).tm t = some x →
      (∃ j o, j < i ∧ ops[j]? = some o ∧ o.dst = some t ∧ x = val j) ∨ ((∀ j o, j < i → ops[j]? = some o → o.dst ≠ some t) ∧ lk (st 0).tm t = some x) := by
  intro i
  induction i with
  | zero => intro _ t x h; exact .inr ⟨fun j o hj => by omega, h⟩
  | succ i ih =>
    intro hi t x h
    have ho : ops[i]? = some ops[i] := List.getElem?_eq_getElem (by omega)
    have hs := hst i _ ho
    rw [hs.tm] at h
    have fall : lk (st i).tm t = some x → (∀ u, (ops[i]).dst = some u → u ≠ t) → (∃ j o, j < i + 1 ∧ ops[j]? = some o ∧ o.dst = some t ∧ x = val j) ∨ ((∀ j o, j < i + 1 → ops[j]? = some o → o.dst ≠ some t) ∧ lk (st 0).tm t = some x) := fun h2 hne => by
      rcases ih (by omega) t x h2 with ⟨j, o, h3, h4, h5, h6⟩ | ⟨h3, h4⟩
      · exact Or.inl ⟨j, o, by omega, h4, h5, h6⟩
      · refine Or.inr ⟨fun j o hj hjo hd => ?_, h4⟩
        by_cases hji : j = i
        · subst hji
          rw [ho] at hjo
          cases hjo
          exact hne t hd rfl
        · exact h3 j o (by omega) hjo hd
    cases hd : (ops[i]).dst with
    | none =>
      rw [hd] at h
      exact fall h (fun u hu => by rw [hd] at hu; cases hu)
    | some u =>
      rw [hd] at h
      simp only [S.put, lk_up] at h
      by_cases hut : u = t
      · subst hut
        rw [if_pos rfl] at h
        cases h
        exact .inl ⟨i, _, by omega, ho, hd, rfl⟩
      · rw [if_neg hut] at h
        exact fall h (fun v hv => by rw [hd] at hv; cases hv; exact hut)

/-- What is known of a region that draws its order. -/
structure Ordr (tl : Bool) (ops : List Oper) (as : List Nat) : Prop where
  lt : ∀ (i : Nat) (o : Oper), ops[i]? = some o → ∀ e ∈ o.after.toList, Region.binds .any e = true → e.on < i
  anc : ∀ (i : Nat) (o : Oper) (x : Nat), ops[i]? = some o → (as.getD i 0).testBit x = true → ∃ e ∈ o.after.toList, Region.binds .any e = true ∧ (e.on = x ∨ (as.getD e.on 0).testBit x = true)
  alt : ∀ (i x : Nat), i < ops.length → (as.getD i 0).testBit x = true → x < i
  looks : ∀ (i j : Nat) (o q : Oper) (t : Tmp), ops[i]? = some o → ops[j]? = some q → i ≠ j → q.dst = some t → t ∈ Go.Ev.looks o (fun j => (ops[j]?).bind (·.dst)) → (j < i → (as.getD i 0).testBit j = true) ∧ (i < j → (as.getD j 0).testBit i = true)
  uniq : ∀ (i j : Nat) (o q : Oper) (t : Tmp), ops[i]? = some o → ops[j]? = some q → o.dst = some t → q.dst = some t → i = j
  big : ∀ (i j : Nat) (o q : Oper), ops[i]? = some o → ops[j]? = some q → i ≠ j → ((tl && inTail ops.length i j) || (!isBig o.op && (isAl q.op && Nat.blt i j))) = false → heapy o.op = true → isBig q.op = true → (j < i → (as.getD i 0).testBit j = true) ∧ (i < j → (as.getD j 0).testBit i = true)

theorem ord_ok {tl : Bool} {ops : List Oper} (h : orderB tl ops = true) : ∃ as, Ordr tl ops as := by
  unfold orderB at h
  split at h
  case h_2 => cases h
  rename_i as has
  obtain ⟨a1, _, a3⟩ := ancsGo_ok _ _ _ has
  simp only [List.length_nil, Nat.zero_add] at a1 a3
  have hp : ∀ i j, i < ops.length → j < ops.length → pairOk tl (fun j => (ops[j]?).bind (·.dst)) as ops i j = true := fun i j hi hj =>
    List.all_eq_true.1 (List.all_eq_true.1 h i (List.mem_range.2 hi)) j (List.mem_range.2 hj)
  have hgd : ∀ i m, as[i]? = some m → as.getD i 0 = m := fun i m e => by simp [List.getD_eq_getElem?_getD, e]
  have lt : ∀ i o, ops[i]? = some o → ∀ e ∈ o.after.toList, Region.binds .any e = true → e.on < i := fun i o ho => by
    obtain ⟨m, e1, e2, e3⟩ := a3 i o ho
    exact e2
  have anc : ∀ i o x, ops[i]? = some o → (as.getD i 0).testBit x = true → ∃ e ∈ o.after.toList, Region.binds .any e = true ∧ (e.on = x ∨ (as.getD e.on 0).testBit x = true) := fun i o x ho hx => by
    obtain ⟨m, e1, e2, e3⟩ := a3 i o ho
    rw [hgd _ _ e1] at hx
    obtain ⟨e, h1, h2, h3⟩ := e3 x hx
    exact ⟨e, h1, h2, h3.imp id fun ⟨m', q1, q2⟩ => by rw [hgd _ _ q1]; exact q2⟩
  have bif_cases : ∀ {i j : Nat} {x y : Bool}, i ≠ j → (bif Nat.blt j i then x else y) = true → (j < i → x = true) ∧ (i < j → y = true) := fun {i j x y} hij hb => by
    cases hbl : Nat.blt j i with
    | true => rw [hbl] at hb; exact ⟨fun _ => hb, fun q => by rw [Nat.blt_eq] at hbl; omega⟩
    | false =>
      rw [hbl] at hb
      have : ¬ j < i := fun q => by rw [← Nat.blt_eq, hbl] at q; cases q
      exact ⟨fun q => absurd q this, fun _ => hb⟩
  have parts : ∀ i j o q, ops[i]? = some o → ops[j]? = some q → i ≠ j → ((match q.dst with
      | some t => (!(looks o (fun j => (ops[j]?).bind (·.dst))).contains t || (bif Nat.blt j i then Nat.testBit (as.getD i 0) j else Nat.testBit (as.getD j 0) i)) && (match o.dst with
        | some u => !Nat.beq t u
        | none => true)
      | none => true) = true) ∧ (!(heapy o.op && isBig q.op) || (((tl && inTail ops.length i j) || (!isBig o.op && (isAl q.op && Nat.blt i j))) || (bif Nat.blt j i then Nat.testBit (as.getD i 0) j else Nat.testBit (as.getD j 0) i))) = true := fun i j o q ho hq hij => by
    have := hp i j (List.getElem?_eq_some_iff.1 ho).1 (List.getElem?_eq_some_iff.1 hq).1
    unfold pairOk at this
    simp only [ho, hq] at this
    have hne : Nat.beq i j = false := by
      cases hb : Nat.beq i j with
      | true => exact absurd (Nat.eq_of_beq_eq_true hb) hij
      | false => rfl
    rw [hne, Bool.false_or, Bool.and_eq_true] at this
    exact this
  refine ⟨as, lt, anc, ?_, fun i j o q t ho hq hij hd ht => ?_, fun i j o q t ho hq hd hd2 => ?_, fun i j o q ho hq hij h0 h1 h2 => ?_⟩
  · intro i
    induction i using Nat.strongRecOn with
    | _ i ih =>
      intro x hi hx
      obtain ⟨e, h1, h2, h3⟩ := anc i _ x (List.getElem?_eq_getElem hi) hx
      have hl := lt i _ (List.getElem?_eq_getElem hi) e h1 h2
      rcases h3 with rfl | h3
      · exact hl
      · have := ih e.on hl x (by omega) h3; omega
  · have := (parts i j o q ho hq hij).1
    simp only [hd, Bool.and_eq_true] at this
    have h1 := this.1
    have hc : (looks o (fun j => (ops[j]?).bind (·.dst))).contains t = true := List.contains_iff_mem.2 ht
    rw [hc] at h1
    exact bif_cases hij (by simpa using h1)
  · cases Nat.decEq i j with
    | isTrue e => exact e
    | isFalse e =>
      have := (parts i j o q ho hq e).1
      simp only [hd, hd2, Nat.beq_refl, Bool.not_true, Bool.and_false] at this
      cases this
  · have := (parts i j o q ho hq hij).2
    rw [h0, h1, h2] at this
    exact bif_cases hij (by simpa using this)

theorem heap_same {P : Program} {rl : Option Nat} {ops : List Oper} {st : Nat → S} {val : Nat → D} (hst : ∀ (i : Nat) (o : Oper), ops[i]? = some o → StepOK P rl ops o (st i) (val i) (st (i + 1))) :
    ∀ (k p : Nat), p + k ≤ ops.length → (∀ j o, ops[j]? = some o → p ≤ j → j < p + k → isBig o.op = false) → (st (p + k)).H = (st p).H
  | 0, _, _, _ => rfl
  | k + 1, p, hl, hn => by
    have ho : ops[p + k]? = some ops[p + k] := List.getElem?_eq_getElem (by omega)
    rw [show p + (k + 1) = (p + k) + 1 by omega, (hst (p + k) _ ho).heap (hn (p + k) _ ho (by omega) (by omega))]
    exact heap_same hst k p (by omega) (fun j o h1 h2 h3 => hn j o h1 h2 (by omega))

theorem heap_grow {P : Program} {rl : Option Nat} {ops : List Oper} {st : Nat → S} {val : Nat → D} (hst : ∀ (i : Nat) (o : Oper), ops[i]? = some o → StepOK P rl ops o (st i) (val i) (st (i + 1))) :
    ∀ (k p : Nat), p + k ≤ ops.length → (∀ j o, ops[j]? = some o → p ≤ j → j < p + k → isBig o.op = true → isAl o.op = true) → HLe (st p).H (st (p + k)).H
  | 0, _, _, _ => HLe.refl _
  | k + 1, p, hl, hn => by
    have ho : ops[p + k]? = some ops[p + k] := List.getElem?_eq_getElem (by omega)
    have ih := heap_grow hst k p (by omega) (fun j o h1 h2 h3 => hn j o h1 h2 (by omega))
    refine ih.trans ?_
    have hs := hst (p + k) _ ho
    cases hb : isBig (ops[p + k]).op with
    | false => rw [show p + (k + 1) = (p + k) + 1 by omega, hs.heap hb]; exact HLe.refl _
    | true => exact hs.grow (hn (p + k) _ ho (by omega) (by omega) hb)

theorem heap_eq {P : Program} {rl : Option Nat} {ops : List Oper} {st : Nat → S} {val : Nat → D} (hst : ∀ (i : Nat) (o : Oper), ops[i]? = some o → StepOK P rl ops o (st i) (val i) (st (i + 1))) {p q : Nat} (hp : p ≤ ops.length) (hq : q ≤ ops.length)
    (h : ∀ j o, ops[j]? = some o → isBig o.op = true → (j < p ↔ j < q)) : (st p).H = (st q).H := by
  rcases Nat.le_total p q with hpq | hpq
  · obtain ⟨k, rfl⟩ := Nat.exists_eq_add_of_le hpq
    refine (heap_same hst k p hq fun j o h1 h2 h3 => ?_).symm
    cases hb : isBig o.op with
    | false => rfl
    | true => have := (h j o h1 hb).2 h3; omega
  · obtain ⟨k, rfl⟩ := Nat.exists_eq_add_of_le hpq
    refine heap_same hst k q hp fun j o h1 h2 h3 => ?_
    cases hb : isBig o.op with
    | false => rfl
    | true => have := (h j o h1 hb).1 h3; omega

/-- What holds wherever the run is. -/
structure DInv (zs : Nat → Value) (tl : Bool) (sB : S) (ops : List Oper) (as : List Nat) (st : Nat → S) (val : Nat → D) (listed : Array Bool) (M : Mem) (w : World) (a : Act) : Prop where
  size : listed.size = ops.length
  closed : ∀ (i : Nat), i < ops.length → listed.getD i false = true → ∀ x, (as.getD i 0).testBit x = true → listed.getD x false = true
  heap : (∃ p, p ≤ ops.length ∧ RH M (st p).H w ∧ ∀ (j : Nat) (o : Oper), ops[j]? = some o → isBig o.op = true → (listed.getD j false = true ↔ j < p)) ∨
    (tl = true ∧ RH M sB.H w ∧ ∀ (j : Nat) (o : Oper), ops[j]? = some o → isBig o.op = true → (listed.getD j false = true ↔ j + 2 ≠ ops.length))
  done : ∀ (j : Nat) (o : Oper) (t : Tmp), ops[j]? = some o → o.dst = some t → listed.getD j false = true → R M (val j) (a.tmps.getD t undef)
  old : ∀ (t : Tmp), (∀ (j : Nat) (o : Oper), ops[j]? = some o → o.dst = some t → listed.getD j false = false) → ∀ x, lk (st 0).tm t = some x → R M x (a.tmps.getD t undef)
  sz : a.tmps.size = (st 0).n
  df : ∃ bs : List Nat, a.defers = bs.map (fun b => { target := .collected b, args := #[] }) ∧ bs.length = (st 0).df.length ∧ ∀ (i : Nat) (l : Nat), (st 0).df[i]? = some l → ∃ b : Nat, bs[i]? = some b ∧ M.at l b
  ex : ∀ (i : Nat) d, (st 0).ex[i]? = some d → R M d (zs i)

theorem st_n {P : Program} {rl : Option Nat} {ops : List Oper} {st : Nat → S} {val : Nat → D} (hst : ∀ (i : Nat) (o : Oper), ops[i]? = some o → StepOK P rl ops o (st i) (val i) (st (i + 1))) : ∀ i, i ≤ ops.length → (st i).n = (st 0).n ∧ (st i).df = (st 0).df ∧ (st i).g = (st 0).g ∧ (st i).ex = (st 0).ex
  | 0, _ => ⟨rfl, rfl, rfl, rfl⟩
  | i + 1, h => by
    have hs := hst i _ (List.getElem?_eq_getElem (by omega))
    obtain ⟨h1, h2, h3, h4⟩ := st_n hst i (by omega)
    exact ⟨hs.n.trans h1, hs.df.trans h2, hs.g.trans h3, hs.ex.trans h4⟩

theorem ready_allL {tl : Bool} {ops : List Oper} {as : List Nat} (hg : Ordr tl ops as) {listed : Array Bool} (hs : listed.size = ops.length) (h : Region.ready .any ops.toArray listed = []) : ∀ i, i < ops.length → listed.getD i true = true := by
  intro i
  induction i using Nat.strongRecOn with
  | _ i ih =>
  intro hi
  cases hl : listed.getD i true with
  | true => rfl
  | false =>
    exfalso
    have : i ∈ Region.ready .any ops.toArray listed := mem_ready.2 ⟨hl, ops[i], by simp [hi], fun e he hb => by
      have hlt := hg.lt i _ (List.getElem?_eq_getElem hi) e (Array.mem_toList_iff.2 he) hb
      have hq := ih e.on hlt (by omega)
      have hlt2 : e.on < listed.size := by omega
      simpa [Array.getD, hlt2] using hq⟩
    rw [h] at this
    cases this

/-- Two stores that stand last, the other way round. -/
structure TailOK (P : Program) (rl : Option Nat) (ops : List Oper) (st : Nat → S) (val : Nat → D) (sB : S) : Prop where
  two : 2 ≤ ops.length
  nal : ∀ (j : Nat) (o : Oper), ops[j]? = some o → j + 1 = ops.length → isAl o.op = false
  big : ∀ (j : Nat) (o : Oper), ops[j]? = some o → j + 2 = ops.length ∨ j + 1 = ops.length → isBig o.op = true
  fst : ∀ (j : Nat) (o : Oper), ops[j]? = some o → j + 1 = ops.length → StepOK P rl ops o (st (ops.length - 2)) (val j) sB
  snd : ∀ (j : Nat) (o : Oper), ops[j]? = some o → j + 2 = ops.length → ∃ sE, StepOK P rl ops o sB (val j) sE ∧ (∀ l, (st ops.length).H.hp.get l = sE.H.hp.get l) ∧ (st ops.length).H.nx = sE.H.nx

theorem drawn_any {P : Program} {rl r : Option Nat} {zs : Nat → Value} {tl : Bool} {sB : S} {ops : List Oper} {as : List Nat} {st : Nat → S} {val : Nat → D} (hg : Ordr tl ops as) (hst : ∀ (i : Nat) (o : Oper), ops[i]? = some o → StepOK P rl ops o (st i) (val i) (st (i + 1)))
    (htl : tl = true → TailOK P rl ops st val sB)
    {Q : Exit → Act → World → Prop} {M0 : Mem} {w0 : World} (hQ : ∀ M w a, SRep zs M (st ops.length) w a → ExtW M0 w0 M w → RelR M rl r → Q .normal a w) :
    ∀ (fuel : Nat) (listed : Array Bool) (M : Mem) (w : World) (a : Act), DInv zs tl sB ops as st val listed M w a → ExtW M0 w0 M w → RelR M rl r → (List.range ops.length).countP (fun k => !listed.getD k true) ≤ fuel →
      wpAnyIn (WF r) 0 P .any ops.toArray Q fuel listed a w := by
  have fin : ∀ (listed : Array Bool) (M : Mem) (w : World) (a : Act), DInv zs tl sB ops as st val listed M w a → ExtW M0 w0 M w → RelR M rl r → (∀ i, i < ops.length → listed.getD i true = true) → Q .normal a w := by
    intro listed M w a hi he hrl hall
    have hl : ∀ i, i < ops.length → listed.getD i false = true := fun i hlt => by
      have := hall i hlt
      have h2 : i < listed.size := by rw [hi.size]; exact hlt
      simpa [Array.getD, h2] using this
    have hRH : RH M (st ops.length).H w := by
      rcases hi.heap with ⟨p, hp, hh, hb⟩ | ⟨ht, hh, hb⟩
      · have hheap : (st p).H = (st ops.length).H := heap_eq hst hp (Nat.le_refl _) fun j o h1 h2 => by
          have hlt := (List.getElem?_eq_some_iff.1 h1).1
          exact ⟨fun _ => hlt, fun _ => (hb j o h1 h2).1 (hl j hlt)⟩
        rw [← hheap]; exact hh
      · have hT := htl ht
        have h2 := hT.two
        have ho : ops[ops.length - 2]? = some ops[ops.length - 2] := List.getElem?_eq_getElem (by omega)
        have := (hb _ _ ho (hT.big _ _ ho (.inl (by omega)))).1 (hl _ (by omega))
        omega
    obtain ⟨e1, e2, _, e4⟩ := st_n hst ops.length (Nat.le_refl _)
    refine hQ M w a ⟨hRH, hi.sz.trans e1.symm, fun t x hx => ?_, by rw [e2]; exact hi.df, by rw [e4]; exact hi.ex⟩ he hrl
    rcases tm_at hst hg.uniq ops.length (Nat.le_refl _) t x hx with ⟨j, o, h1, h2, h3, rfl⟩ | ⟨h1, h2⟩
    · exact hi.done j o t h2 h3 (hl j h1)
    · exact hi.old t (fun j o h3 h4 => absurd h4 (h1 j o (List.getElem?_eq_some_iff.1 h3).1 h3)) x h2
  intro fuel
  induction fuel with
  | zero =>
    intro listed M w a hi he hrl hc
    have hall : ∀ i, i < ops.length → listed.getD i true = true := fun i hlt => by
      have := List.countP_eq_zero.1 (Nat.le_zero.1 hc) i (List.mem_range.2 hlt)
      simpa using this
    refine ⟨?_, fin _ _ _ _ hi he hrl hall⟩
    cases hr : Region.ready .any ops.toArray listed with
    | nil => rfl
    | cons i q =>
      obtain ⟨h1, o, ho, _⟩ := mem_ready.1 (hr ▸ List.mem_cons_self (a := i) (l := q))
      rw [hall i (by have := (Array.getElem?_eq_some_iff.1 ho).1; simpa using this)] at h1
      cases h1
  | succ fuel ih =>
    intro listed M w a hi he hrl hc
    refine ⟨fun hr => fin _ _ _ _ hi he hrl (ready_allL hg hi.size hr), fun i hri => ?_⟩
    obtain ⟨hun, o, ho, hedges⟩ := mem_ready.1 hri
    have ho : ops[i]? = some o := by simpa using ho
    have hin : i < ops.length := (List.getElem?_eq_some_iff.1 ho).1
    have his : i < listed.size := by rw [hi.size]; exact hin
    have hun' : listed.getD i false = false := by simpa [Array.getD, his] using hun
    have hanc : ∀ x, (as.getD i 0).testBit x = true → listed.getD x false = true := fun x hx => by
      obtain ⟨e, e1, e2, e3⟩ := hg.anc i o x ho hx
      have hl := hedges e (Array.mem_toList_iff.1 e1) e2
      have hlt := hg.lt i o ho e e1 e2
      rcases e3 with rfl | e3
      · exact hl
      · exact hi.closed _ (by omega) hl x e3
    -- what is behind it is not done
    have hnot : ∀ j, j < ops.length → (as.getD j 0).testBit i = true → listed.getD j false = false := fun j hj hx => by
      cases hl : listed.getD j false with
      | false => rfl
      | true => have := hi.closed j hj hl i hx; rw [hun'] at this; cases this
    have hfacts : ∀ t ∈ looks o (fun j => (ops[j]?).bind (·.dst)), ∀ x, lk (st i).tm t = some x → R M x (a.tmps.getD t undef) := fun t ht x hx => by
      rcases tm_at hst hg.uniq i (Nat.le_of_lt hin) t x hx with ⟨j, q, h1, h2, h3, rfl⟩ | ⟨h1, h2⟩
      · exact hi.done j q t h2 h3 (hanc j ((hg.looks i j o q t ho h2 (by omega) h3 ht).1 h1))
      · refine hi.old t (fun j q h3 h4 => ?_) x h2
        have hjl := (List.getElem?_eq_some_iff.1 h3).1
        rcases Nat.lt_trichotomy j i with hji | hji | hji
        · exact absurd h4 (h1 j q hji h3)
        · subst hji; exact hun'
        · exact hnot j hjl ((hg.looks i j o q t ho h3 (by omega) h4 ht).2 hji)
    have hcount : (List.range ops.length).countP (fun k => !(listed.setIfInBounds i true).getD k true) ≤ fuel := by
      have := countP_set ops.length hin his hun
      omega
    have hset := fun j => getD_set (j := j) his
    -- what holds behind it, whatever the heap is
    have next : ∀ (s1 s2 : S) (h1 : H), StepOK P rl ops o s1 (val i) s2 → s1.n = (st i).n → RH M h1 w → (isBig o.op = true → h1 = s1.H) → (heapy o.op = true → HLe s1.H h1) → (∀ t ∈ looks o (fun j => (ops[j]?).bind (·.dst)), ∀ x, lk s1.tm t = some x → R M x (a.tmps.getD t undef)) →
        (∀ M' w', RH M' (bif isBig o.op then s2.H else h1) w' → (∃ p, p ≤ ops.length ∧ RH M' (st p).H w' ∧ ∀ (j : Nat) (o : Oper), ops[j]? = some o → isBig o.op = true → ((listed.setIfInBounds i true).getD j false = true ↔ j < p)) ∨
          (tl = true ∧ RH M' sB.H w' ∧ ∀ (j : Nat) (o : Oper), ops[j]? = some o → isBig o.op = true → ((listed.setIfInBounds i true).getD j false = true ↔ j + 2 ≠ ops.length))) →
        wpOpIn (WF r) 0 P ops.toArray Q i (wpAnyIn (WF r) 0 P .any ops.toArray Q fuel (listed.setIfInBounds i true)) a w := by
      intro s1 s2 h1 hs hn hh hheap hheap2 hf hnew
      unfold wpOpIn
      simp only [List.getElem?_toArray, ho]
      refine hs.run r M w a h1 hrl hh hheap hheap2 (hi.sz.trans ((st_n hst i (Nat.le_of_lt hin)).1.symm.trans hn.symm)) hf _ Q fun M' w' v g1 g2 g3 => ?_
      refine ih _ M' w' _ ⟨by simpa using hi.size, fun j hj hl x hx => ?_, hnew M' w' g1, fun j q t h1 h2 h3 => ?_, fun t hn x hx => ?_, by rw [put_size]; exact hi.sz, ?_, fun j x hx => (hi.ex j x hx).mono g3.le⟩ (he.trans g3.w) (hrl.mono g3.le) hcount
      · rw [hset] at hl ⊢
        split
        · rfl
        · split at hl
          · rename_i hij
            subst hij
            exact hanc x hx
          · exact hi.closed j hj hl x hx
      · rw [hset] at h3
        by_cases hij : i = j
        · subst hij
          rw [ho] at h1
          cases h1
          rw [h2]
          have hlt : t < a.tmps.size := by
            have := hs.room
            rw [h2] at this
            rw [hi.sz, ← (st_n hst i (Nat.le_of_lt hin)).1, ← hn]
            exact this
          rw [put_same hlt]
          exact g2
        · rw [if_neg hij] at h3
          rw [put_other (fun e => hij (hg.uniq i j o q t ho h1 e h2))]
          exact (hi.done j q t h1 h2 h3).mono g3.le
      · have hne : o.dst ≠ some t := fun e => by
          have := hn i o ho e
          rw [hset, if_pos rfl] at this
          cases this
        rw [put_other hne]
        refine (hi.old t (fun j q h1 h2 => ?_) x hx).mono g3.le
        have := hn j q h1 h2
        rw [hset] at this
        split at this
        · cases this
        · exact this
      · obtain ⟨bs, h1, h2, h3⟩ := hi.df
        exact ⟨bs, by rw [put_defers]; exact h1, h2, fun i l e => let ⟨b, q1, q2⟩ := h3 i l e; ⟨b, q1, q2.mono g3.le⟩⟩
    have hs := hst i o ho
    have hbh : isBig o.op = true → heapy o.op = true := fun hbig => by
      revert hbig
      cases o.op <;> simp [isBig, heapy]
    rcases hi.heap with ⟨p, hp, hh, hb⟩ | ⟨ht, hh, hb⟩
    · by_cases htail : tl = true ∧ i + 1 = ops.length ∧ ∃ (j : Nat) (q : Oper), ops[j]? = some q ∧ j + 2 = ops.length ∧ listed.getD j false = false
      · -- the last store is done ahead of the one before it
        obtain ⟨ht, hil, j0, q0, hj0, hj1, hj2⟩ := htail
        have hT := htl ht
        have hbi := hT.big i o ho (.inr hil)
        have hhy := hbh hbi
        have hp2 : p ≤ ops.length - 2 := by
          have := (hb j0 q0 hj0 (hT.big _ _ hj0 (.inl hj1)))
          rw [hj2] at this
          simp at this
          omega
        have hothers : ∀ (j : Nat) (q : Oper), ops[j]? = some q → isBig q.op = true → j + 2 ≠ ops.length → j ≠ i → listed.getD j false = true := fun j q h1 h2 h3 h4 => by
          have hjl := (List.getElem?_eq_some_iff.1 h1).1
          refine hanc j ((hg.big i j o q ho h1 (fun e => h4 e.symm) ?_ hhy h2).1 (by omega))
          simp [inTail, ht, hbi]
          omega
        have hheap : (st p).H = (st (ops.length - 2)).H := heap_eq hst hp (by omega) fun j q h1 h2 => by
          have hjl := (List.getElem?_eq_some_iff.1 h1).1
          constructor
          · intro h; omega
          · intro h
            exact (hb j q h1 h2).1 (hothers j q h1 h2 (by omega) (by omega))
        refine next (st (ops.length - 2)) sB (st p).H (hT.fst i o ho hil) (by rw [(st_n hst (ops.length - 2) (by omega)).1, (st_n hst i (by omega)).1]) hh (fun _ => hheap) (fun _ => by rw [hheap]; exact HLe.refl _) (fun t htl x hx => ?_) fun M' w' g1 => .inr ⟨ht, by rw [hbi] at g1; exact g1, fun j q h1 h2 => ?_⟩
        · -- what is known ahead of the store before it is known here
          rcases tm_at hst hg.uniq (ops.length - 2) (by omega) t x hx with ⟨j, q, h1, h2, h3, rfl⟩ | ⟨h1, h2⟩
          · exact hi.done j q t h2 h3 (hanc j ((hg.looks i j o q t ho h2 (by omega) h3 htl).1 (by omega)))
          · refine hi.old t (fun j q h3 h4 => ?_) x h2
            have hjl := (List.getElem?_eq_some_iff.1 h3).1
            by_cases hj : j < ops.length - 2
            · exact absurd h4 (h1 j q hj h3)
            · by_cases hji : j = i
              · subst hji; exact hun'
              · rw [show j = j0 by omega]; exact hj2
        · rw [hset]
          by_cases hji : i = j
          · subst hji; simp; omega
          · rw [if_neg hji]
            by_cases hj : j + 2 = ops.length
            · have hjj : j = j0 := by omega
              subst hjj
              rw [hj2]
              simp [hj]
            · rw [hothers j q h1 h2 hj (fun e => hji e.symm)]
              simp [hj]
      · have hside : isBig o.op = true → ∀ (j : Nat) (q : Oper), ops[j]? = some q → isBig q.op = true → i ≠ j → (listed.getD j false = true ↔ j < i) := fun hbo j q h1 h2 hij => by
          have hhy := hbh hbo
          have hjl := (List.getElem?_eq_some_iff.1 h1).1
          cases hex : (tl && inTail ops.length i j) with
          | false =>
            have hex2 : ((tl && inTail ops.length i j) || (!isBig o.op && (isAl q.op && Nat.blt i j))) = false := by rw [hex, hbo]; rfl
            rcases Nat.lt_trichotomy j i with hji | hji | hji
            · exact ⟨fun _ => hji, fun _ => hanc j ((hg.big i j o q ho h1 hij hex2 hhy h2).1 hji)⟩
            · exact absurd hji.symm hij
            · rw [hnot j hjl ((hg.big i j o q ho h1 hij hex2 hhy h2).2 hji)]; simp; omega
          | true =>
            simp only [Bool.and_eq_true, inTail, Bool.or_eq_true] at hex
            obtain ⟨ht, hex⟩ := hex
            have hex : (i + 2 = ops.length ∧ j + 1 = ops.length) ∨ (j + 2 = ops.length ∧ i + 1 = ops.length) := hex.imp (fun q => ⟨Nat.eq_of_beq_eq_true q.1, Nat.eq_of_beq_eq_true q.2⟩) (fun q => ⟨Nat.eq_of_beq_eq_true q.1, Nat.eq_of_beq_eq_true q.2⟩)
            rcases hex with ⟨h3, h4⟩ | ⟨h3, h4⟩
            · -- the store before the last one; the last one is not done
              have hbi := (htl ht).big i o ho (.inl h3)
              have := hb i o ho hbi
              rw [hun'] at this
              simp at this
              have h5 := hb j q h1 h2
              constructor
              · intro h; have := h5.1 h; omega
              · intro h; omega
            · -- the last one
              constructor
              · intro _; omega
              · intro _
                cases hl : listed.getD j false with
                | true => rfl
                | false => exact absurd ⟨ht, h4, j, q, h1, h3, hl⟩ htail
        have hheap : isBig o.op = true → (st p).H = (st i).H := fun hbo => heap_eq hst hp (Nat.le_of_lt hin) fun j q h1 h2 => by
          rw [← hb j q h1 h2]
          by_cases hij : i = j
          · subst hij; rw [hun']; simp
          · exact hside hbo j q h1 h2 hij
        have hheap2 : heapy o.op = true → HLe (st i).H (st p).H := fun hhy => by
          cases hbo : isBig o.op with
          | true => rw [hheap hbo]; exact HLe.refl _
          | false =>
            -- one that looks at memory: what is new may be there already
            have hne : ∀ (j : Nat) (q : Oper), ops[j]? = some q → isBig q.op = true → i ≠ j := fun j q h1 h2 e => by
              subst e; rw [ho] at h1; cases h1; rw [hbo] at h2; cases h2
            have htl0 : ∀ (j : Nat) (q : Oper), ops[j]? = some q → isBig q.op = true → (tl && inTail ops.length i j) = false := fun j q h1 h2 => by
              cases hex : (tl && inTail ops.length i j) with
              | false => rfl
              | true =>
                exfalso
                simp only [Bool.and_eq_true, inTail, Bool.or_eq_true] at hex
                obtain ⟨ht, hex⟩ := hex
                have hi2 : i + 2 = ops.length ∨ i + 1 = ops.length := hex.elim (fun q => .inl (Nat.eq_of_beq_eq_true q.1)) (fun q => .inr (Nat.eq_of_beq_eq_true q.2))
                have := (htl ht).big i o ho hi2
                rw [hbo] at this; cases this
            have hlow : ∀ (j : Nat) (q : Oper), ops[j]? = some q → isBig q.op = true → j < i → j < p := fun j q h1 h2 hji => by
              refine (hb j q h1 h2).1 (hanc j ((hg.big i j o q ho h1 (hne j q h1 h2) ?_ hhy h2).1 hji))
              rw [htl0 j q h1 h2, hbo]
              have : Nat.blt i j = false := by
                cases hb : Nat.blt i j with
                | false => rfl
                | true => rw [Nat.blt_eq] at hb; omega
              simp [this]
            have hhigh : ∀ (j : Nat) (q : Oper), ops[j]? = some q → isBig q.op = true → i ≤ j → j < p → isAl q.op = true := fun j q h1 h2 hij hjp => by
              cases hal : isAl q.op with
              | true => rfl
              | false =>
                have hij : i < j := by have := hne j q h1 h2; omega
                have hl := (hb j q h1 h2).2 hjp
                have := (hg.big i j o q ho h1 (by omega) (by rw [htl0 j q h1 h2, hal]; simp) hhy h2).2 hij
                rw [hnot j (List.getElem?_eq_some_iff.1 h1).1 this] at hl
                cases hl
            by_cases hip : i ≤ p
            · obtain ⟨m, rfl⟩ := Nat.exists_eq_add_of_le hip
              exact heap_grow hst m i hp fun j q h1 h2 h3 h4 => hhigh j q h1 h4 h2 h3
            · rw [heap_eq hst hp (Nat.le_of_lt hin) (p := p) (q := i) fun j q h1 h2 => ⟨fun h => by omega, fun h => hlow j q h1 h2 h⟩]
              exact HLe.refl _
        refine next (st i) (st (i + 1)) (st p).H hs rfl hh hheap hheap2 hfacts fun M' w' g1 => .inl ?_
        cases hbig : isBig o.op with
        | false =>
          rw [hbig] at g1
          refine ⟨p, hp, g1, fun j q h1 h2 => ?_⟩
          rw [hset, if_neg (fun e => by subst e; rw [ho] at h1; cases h1; rw [hbig] at h2; cases h2)]
          exact hb j q h1 h2
        | true =>
          rw [hbig] at g1
          refine ⟨i + 1, hin, g1, fun j q h1 h2 => ?_⟩
          rw [hset]
          by_cases hij : i = j
          · subst hij; simp
          · rw [if_neg hij, hside hbig j q h1 h2 hij]; omega
    · -- the last store is done, the one before it is not
      have hT := htl ht
      by_cases hbig : isBig o.op = true
      · have hi2 : i + 2 = ops.length := by
          have := hb i o ho hbig
          rw [hun'] at this
          simp at this
          exact this
        obtain ⟨sE, hE, hE1, hE2⟩ := hT.snd i o ho hi2
        refine next sB sE sB.H hE ?_ hh (fun _ => rfl) (fun _ => HLe.refl _) (fun t htl x hx => ?_) fun M' w' g1 => .inl ⟨ops.length, Nat.le_refl _, ?_, fun j q h1 h2 => ?_⟩
        · have ho1 : ops[ops.length - 1]? = some ops[ops.length - 1] := List.getElem?_eq_getElem (by omega)
          rw [(hT.fst _ _ ho1 (by omega)).n, (st_n hst (ops.length - 2) (by omega)).1, (st_n hst i (by omega)).1]
        · have ho1 : ops[ops.length - 1]? = some ops[ops.length - 1] := List.getElem?_eq_getElem (by omega)
          have hf := hT.fst _ _ ho1 (by omega)
          rw [hf.tm] at hx
          have hii : ops.length - 2 = i := by omega
          rw [hii] at hx
          cases hd : (ops[ops.length - 1]).dst with
          | none => rw [hd] at hx; exact hfacts t htl x hx
          | some u =>
            rw [hd] at hx
            simp only [S.put, lk_up] at hx
            by_cases hut : u = t
            · subst hut
              rw [if_pos rfl] at hx
              cases hx
              refine hi.done _ _ u ho1 hd ?_
              exact (hb _ _ ho1 (hT.big _ _ ho1 (.inr (by omega)))).2 (by omega)
            · rw [if_neg hut] at hx
              exact hfacts t htl x hx
        · rw [hbig] at g1
          exact g1.same (fun l => hE1 l) hE2
        · rw [hset]
          have hjl := (List.getElem?_eq_some_iff.1 h1).1
          by_cases hij : i = j
          · subst hij; simp [hjl]
          · rw [if_neg hij, hb j q h1 h2]
            simp [hjl]; omega
      · have hbig : isBig o.op = false := by simpa using hbig
        have hnh : heapy o.op = true → False := fun hhy => by
          have ho1 : ops[ops.length - 1]? = some ops[ops.length - 1] := List.getElem?_eq_getElem (by have := hT.two; omega)
          have hb1 := hT.big _ _ ho1 (.inr (by have := hT.two; omega))
          have hl1 := (hb _ _ ho1 hb1).2 (by have := hT.two; omega)
          have hne : i ≠ ops.length - 1 := fun e => by rw [e] at ho; rw [ho1] at ho; cases ho; rw [hb1] at hbig; cases hbig
          have hne2 : i + 2 ≠ ops.length := fun e => by rw [hT.big i o ho (.inl e)] at hbig; cases hbig
          have hal1 : isAl (ops[ops.length - 1]).op = false := hT.nal _ _ ho1 (by have := hT.two; omega)
          have := (hg.big i (ops.length - 1) o _ ho ho1 hne (by simp [inTail, hal1]; intro _; omega) hhy hb1).2 (by omega)
          rw [hnot _ (by omega) this] at hl1
          cases hl1
        refine next (st i) (st (i + 1)) sB.H hs rfl hh (fun q => (hnh (hbh q)).elim) (fun q => (hnh q).elim) hfacts fun M' w' g1 => .inr ⟨ht, by rw [hbig] at g1; exact g1, fun j q h1 h2 => ?_⟩
        rw [hset, if_neg (fun e => by subst e; rw [ho] at h1; cases h1; rw [hbig] at h2; cases h2)]
        exact hb j q h1 h2
end Go.Ev
