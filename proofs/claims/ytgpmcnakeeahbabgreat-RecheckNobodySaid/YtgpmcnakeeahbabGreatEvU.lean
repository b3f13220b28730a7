/-
  Regions that draw their order: any order does.
-/
import Derived.Test.YtgpmcnakeeahbabGreatEvV
namespace Go.Ev
open Go.Aw (WF tiOf tiOf_spec)

def okT (rows : List Row) (listed : Array Bool) (t : Tmp) : Prop := ∀ r ∈ rows, r.big = false → r.o.dst = some t → listed.getD r.i false = true

theorem put_same {a : Act} {t : Tmp} {v : Value} (h : t < a.tmps.size) : (a.put (some t) v).tmps.getD t undef = v := by
  simp [Act.put, Array.getD, h]
theorem put_other {a : Act} {dst : Option Tmp} {t : Tmp} {v : Value} (h : dst ≠ some t) : (a.put dst v).tmps.getD t undef = a.tmps.getD t undef := by
  cases dst with
  | none => rfl
  | some u =>
    have : u ≠ t := fun e => h (by rw [e])
    simp [Act.put, Array.getD_eq_getD_getElem?, Array.getElem?_setIfInBounds_ne this]
theorem put_size {a : Act} {dst : Option Tmp} {v : Value} : (a.put dst v).tmps.size = a.tmps.size := by cases dst <;> simp [Act.put]
theorem put_defers {a : Act} {dst : Option Tmp} {v : Value} : (a.put dst v).defers = a.defers := by cases dst <;> rfl

theorem constD_R {M : Mem} (v : Value) : R M (constD v) v := by
  unfold constD
  split
  · rename_i cs
    cases hc : cs.toList.all Aw.litB with
    | true =>
      have hl : ∀ c, c ∈ cs.toList → Aw.litOk c := fun c hm => Aw.litB_ok (List.all_eq_true.1 hc c hm)
      refine .agg _ _ (by simp) (fun i d hi => ?_) (fun i d hi => ?_)
      · simp only [List.getElem?_map, Array.getElem?_toList, Option.map_eq_some_iff] at hi
        obtain ⟨c, hc1, rfl⟩ := hi
        have := hl c (by rw [Array.mem_toList_iff]; exact Array.mem_of_getElem? hc1)
        rw [show cs.getD i undef = c by simp [Array.getD_eq_getD_getElem?, hc1]]
        exact lit_one this
      · simp only [List.getElem?_map, Array.getElem?_toList, Option.map_eq_some_iff] at hi
        obtain ⟨c, hc1, rfl⟩ := hi
        have := hl c (by rw [Array.mem_toList_iff]; exact Array.mem_of_getElem? hc1)
        rw [show cs.getD i undef = c by simp [Array.getD_eq_getD_getElem?, hc1]]
        exact .lit _ this
    | false => exact .any _
  · cases hc : Aw.litB v with
    | true => exact .lit _ (Aw.litB_ok hc)
    | false => exact .any _

open Classical in
/-- What is known of the operands, where not all slots are known. -/
noncomputable def partF (tm : T D) (ok : Tmp → Prop) (x : Operand) : D := if ∀ t, x = .tmp t → ok t then valT tm x else .any

theorem partF_R {M : Mem} {tm : T D} {ok : Tmp → Prop} {a : Act} (hv : ∀ t d, ok t → tm.get t = some d → R M d (a.tmps.getD t undef)) (x : Operand) : R M (partF tm ok x) (a.eval x) := by
  unfold partF
  split
  · rename_i h
    cases x with
    | tmp t =>
      simp only [valT]
      cases hl : tm.get t with
      | none => exact .any _
      | some d => exact hv t d (h t rfl) hl
    | const v =>
      exact constD_R v
    | func f => exact .fn _ _ _ _ _ rfl rfl (fun i d hi => by simp at hi) (fun i d hi => by simp at hi)
    | global g => exact .any _
  · exact .any _

theorem partF_eq {tm : T D} {ok : Tmp → Prop} {x : Operand} (h : ∀ t, x = .tmp t → ok t) : partF tm ok x = valT tm x := by
  unfold partF
  rw [if_pos h]

theorem evalOp_reader {P : Program} {cf : CF} {ye : YE} {f : Operand → D} {h : H} {op : Op} (hr : isReader op = true) : evalOp P cf ye f h op = opE P h f op := by
  unfold evalOp
  split
  · rename_i c
    split
    · rename_i g hc
      simp only [isReader, hc, Bool.false_eq_true] at hr
    · rfl
  · rfl

theorem pass_get {P : Program} {b0 : Nat} {gd : Nat → Option Tmp} {all : Nat} {old : Option Nat} {bm : Nat} {h : H} {t : Nat} : ∀ (l : List Row) (tm tm' : T D), passE P b0 gd all old bm h l tm = some tm' →
    (∀ r ∈ l, r.big = false → elig all bm r = true → oldE all old r = false → r.o.dst ≠ some t) → tm'.get t = tm.get t
  | [], tm, tm', he, _ => by simp only [passE, Option.some.injEq] at he; rw [he]
  | r :: l, tm, tm', he, hn => by
    simp only [passE] at he
    rw [cond_eq_ite] at he
    split at he
    · rename_i hc
      simp only [Bool.and_eq_true, Bool.not_eq_true'] at hc
      split at he
      case h_2 => cases he
      rename_i d hd
      rw [pass_get l _ _ he fun q hq => hn q (List.mem_cons_of_mem _ hq)]
      have := hn r (by simp) hc.1 hc.2.1 hc.2.2
      cases hdst : r.o.dst with
      | none => rfl
      | some u =>
        simp only [putT, T.get_set]
        rw [if_neg (fun e => this (by rw [hdst, e]))]
    · exact pass_get l _ _ he fun q hq => hn q (List.mem_cons_of_mem _ hq)

theorem ready_all {ops : Array Oper} {rows : List Row} {all : Nat} (hg : Reg ops rows all) {listed : Array Bool} (hs : listed.size = ops.size) (h : Region.ready .any ops listed = []) : ∀ i, i < ops.size → listed.getD i true = true := by
  intro i
  induction i using Nat.strongRecOn with
  | _ i ih =>
  intro hi
  cases hl : listed.getD i true with
  | true => rfl
  | false =>
    exfalso
    have : i ∈ Region.ready .any ops listed := mem_ready.2 ⟨hl, ops[i], Array.getElem?_eq_getElem hi, fun e he hb => by
      obtain ⟨r, h1, h2⟩ := hg.has i _ (Array.getElem?_eq_getElem hi)
      have ho := hg.row r h1
      rw [h2, Array.getElem?_eq_getElem hi] at ho
      have hlt := hg.lt r h1 e (by rw [← Option.some.inj ho]; exact Array.mem_toList_iff.2 he) hb
      rw [h2] at hlt
      have := ih e.on hlt (by omega)
      have hlt2 : e.on < listed.size := by omega
      simpa [Array.getD, hlt2] using this⟩
    rw [h] at this
    cases this

/-- What holds at a stage, whatever of the light ones is done. -/
structure Stage (P : Program) (b0 : Nat) (ops : Array Oper) (rows : List Row) (all nn : Nat) (df : List DF) (bm mu : Nat) (tm : T D) (h : H) (listed : Array Bool) (M : Mem) (w : World) (a : Act) : Prop where
  size : listed.size = ops.size
  closed : ∀ r ∈ rows, listed.getD r.i false = true → ∀ x, r.anc.testBit x = true → listed.getD x false = true
  big : ∀ r ∈ rows, r.big = true → (listed.getD r.i false = true ↔ bm.testBit r.i = true)
  must : ∀ r ∈ rows, mu.testBit r.i = true → listed.getD r.i false = true
  hold : holdE P b0 (fun j => (ops[j]?).bind (·.dst)) all bm mu tm h rows = true
  mem : RH M h w
  sz : a.tmps.size = nn
  vals : ∀ t d, okT rows listed t → tm.get t = some d → R M d (a.tmps.getD t undef)
  df : DfsOk M df a.defers
  res : ∀ r ∈ rows, isAlloc r.o = true → listed.getD r.i false = false → M.μ (b0 + r.i) = .res ∧ b0 + r.i < M.nx

theorem getD_set {listed : Array Bool} {i j : Nat} (hi : i < listed.size) : (listed.setIfInBounds i true).getD j false = if i = j then true else listed.getD j false := by
  by_cases h : i = j
  · subst h; simp [Array.getD, hi]
  · rw [if_neg h]
    simp [Array.getD_eq_getD_getElem?, Array.getElem?_setIfInBounds_ne h]

theorem countP_set (n : Nat) {listed : Array Bool} {i : Nat} (hn : i < n) (hi : i < listed.size) (hu : listed.getD i true = false) :
    (List.range n).countP (fun k => !(listed.setIfInBounds i true).getD k true) + 1 ≤ (List.range n).countP (fun k => !listed.getD k true) := by
  have key : ∀ l : List Nat, l.Nodup → i ∈ l → l.countP (fun k => !(listed.setIfInBounds i true).getD k true) + 1 = l.countP (fun k => !listed.getD k true) := by
    intro l
    induction l with
    | nil => intro _ h; simp at h
    | cons x l ih =>
      intro hnd hm
      obtain ⟨n1, n2⟩ := List.nodup_cons.1 hnd
      have other : ∀ k, k ≠ i → (listed.setIfInBounds i true).getD k true = listed.getD k true := fun k hk => by
        simp [Array.getD_eq_getD_getElem?, Array.getElem?_setIfInBounds_ne (Ne.symm hk)]
      have self : (listed.setIfInBounds i true).getD i true = true := by simp [Array.getD, hi]
      rcases List.mem_cons.1 hm with rfl | hm
      · rw [List.countP_cons, List.countP_cons, self, hu]
        have : l.countP (fun k => !(listed.setIfInBounds i true).getD k true) = l.countP (fun k => !listed.getD k true) :=
          List.countP_congr fun k hk => by rw [other k (fun e => n1 (e ▸ hk))]
        rw [this]
        simp
      · have hx : x ≠ i := fun e => n1 (e ▸ hm)
        rw [List.countP_cons, List.countP_cons, other x hx, ← ih n2 hm]
        omega
  exact Nat.le_of_eq (key _ List.nodup_range (List.mem_range.2 hn))

theorem RH.same {M : Mem} {h h' : H} {w : World} (hr : RH M h w) (hg : ∀ l, h'.hp.get l = h.hp.get l) (hn : h'.nx = h.nx) : RH M h' w :=
  ⟨hr.inv, fun l k e => hr.hp l k ((hg l).symm.trans e), hn.trans hr.nx⟩

/-- The states that may come, whatever of the big ones is done. -/
inductive Net (P : Program) (cf : CF) (ye : YE) (b0 : Nat) (gd : Nat → Option Tmp) (rows : List Row) (all : Nat) (tm' : T D) (h' : H) : Nat → Nat → T D → H → Prop
  | mk (bm mu : Nat) (tm : T D) (h : H) (sd : Row → D) (s1 s2 : Row → H) (st : Row → T D)
    (fin : (∀ b ∈ rows, b.big = true → bm.testBit b.i = true) → tm = tm' ∧ h'.nx = h.nx ∧ ∀ l, h'.hp.get l = h.hp.get l)
    (ok : ∀ b ∈ rows, b.big = true → bm.testBit b.i = false → (∀ k ∈ rows, k.big = true → b.anc.testBit k.i = true → bm.testBit k.i = true) →
      bigE P cf ye gd tm h b = some (sd b, s1 b) ∧ (∀ t, (∀ k ∈ rows, k.big = false → elig all (bm ||| bit b.i) k = true → oldE all (some bm) k = false → k.o.dst ≠ some t) → (st b).get t = (putT tm b.o.dst (sd b)).get t) ∧
      ((s2 b).nx = (s1 b).nx ∧ ∀ l, (s2 b).hp.get l = (s1 b).hp.get l) ∧ holdE P b0 gd all (bm ||| bit b.i) (mu ||| b.anc) (st b) (s2 b) rows = true)
    (next : ∀ b ∈ rows, b.big = true → bm.testBit b.i = false → (∀ k ∈ rows, k.big = true → b.anc.testBit k.i = true → bm.testBit k.i = true) → Net P cf ye b0 gd rows all tm' h' (bm ||| bit b.i) (mu ||| b.anc) (st b) (s2 b)) :
    Net P cf ye b0 gd rows all tm' h' bm mu tm h

theorem storeOf_ev {P : Program} {cf : CF} {ye : YE} {gd : Nat → Option Tmp} {tm : T D} {h : H} {b : Row} {l : Nat} {k : Blk} (hs : storeOf P tm h b.o = some (l, k)) (h2 : H) (hg : h2.hp.get l = h.hp.get l) :
    bigE P cf ye gd tm h2 b = some (.un, { h2 with hp := h2.hp.set l k }) ∧ b.o.dst = none := by
  unfold storeOf at hs
  split at hs
  case h_2 => cases hs
  rename_i t p v hgu hdst hop
  split at hs
  case h_2 => cases hs
  rename_i ti l' off hti hp
  split at hs
  case h_2 => cases hs
  rename_i k0 hk0
  simp only [Option.map_eq_some_iff, Prod.mk.injEq] at hs
  obtain ⟨k', hk', rfl, rfl⟩ := hs
  refine ⟨?_, hdst⟩
  unfold bigE
  rw [hgu]
  simp only [guardE]
  have : evalOp P cf ye (valT tm) h2 b.o.op = opE P h2 (valT tm) b.o.op := by rw [hop]; rfl
  rw [this, hop]
  simp only [opE, hti, hp, storeE, hg, hk0]
  unfold storeK at hk'
  split at hk'
  case h_2 => cases hk'
  obtain ⟨hc, hk'⟩ := bif_some hk'
  cases hk'
  simp only [hc, cond_true, Option.map_some]

theorem stage_net {P : Program} {cf : CF} {ye : YE} {b0 : Nat} {gd : Nat → Option Tmp} {rows : List Row} {all : Nat} {tm' : T D} {h' : H} (huniq : ∀ r ∈ rows, ∀ k ∈ rows, r.i = k.i → r = k) :
    ∀ (l : List Row) (bm must : Nat) (tm : T D) (h : H), stageE P cf ye b0 gd rows all l bm must tm h = some (tm', h') → (∀ r ∈ rows, r.big = true → (r ∈ l ↔ bm.testBit r.i = false)) → (∀ r ∈ l, r ∈ rows ∧ r.big = true) → l.Pairwise (fun a b => a.i ≠ b.i) →
      Net P cf ye b0 gd rows all tm' h' bm must tm h
  | [], bm, must, tm, h, hs, hl, _, _ => by
    simp only [stageE, Option.some.injEq, Prod.mk.injEq] at hs
    obtain ⟨rfl, rfl⟩ := hs
    have no : ∀ b ∈ rows, b.big = true → bm.testBit b.i = false → False := fun b hb hbb hbi => by simpa using (hl b hb hbb).2 hbi
    exact .mk bm must tm h (fun _ => .un) (fun _ => h) (fun _ => h) (fun _ => tm) (fun _ => ⟨rfl, rfl, fun _ => rfl⟩) (fun b hb hbb hbi _ => (no b hb hbb hbi).elim) (fun b hb hbb hbi _ => (no b hb hbb hbi).elim)
  | b :: l, bm, must, tm, h, hs, hl, hm, hp => by
    obtain ⟨hp1, hp2⟩ := List.pairwise_cons.1 hp
    obtain ⟨hbr, hbb⟩ := hm b (by simp)
    have hbi : bm.testBit b.i = false := (hl b hbr hbb).1 (by simp)
    have notall : ¬ (∀ b ∈ rows, b.big = true → bm.testBit b.i = true) := fun q => by have := q b hbr hbb; rw [hbi] at this; cases this
    have orbit : ∀ (m : Nat) (r q : Row), (m ||| bit r.i).testBit q.i = (m.testBit q.i || decide (r.i = q.i)) := fun m r q => by rw [Nat.testBit_or, testBit_bit]
    simp only [stageE] at hs
    rw [cond_eq_ite] at hs
    split at hs
    · rename_i hch
      split at hs
      case h_2 => cases hs
      rename_i d h1 hbig
      split at hs
      case h_2 => cases hs
      rename_i tm2 hps
      obtain ⟨hhold, hs⟩ := bif_some hs
      have only : ∀ r ∈ rows, r.big = true → bm.testBit r.i = false → (∀ k ∈ rows, k.big = true → r.anc.testBit k.i = true → bm.testBit k.i = true) → r = b := fun r hr hrb hri hra => by
        rcases List.mem_cons.1 ((hl r hr hrb).2 hri) with q | q
        · exact q
        · have := List.all_eq_true.1 hch r q
          have := hra b hbr hbb this
          rw [hbi] at this; cases this
      refine .mk bm must tm h (fun _ => d) (fun _ => h1) (fun _ => h1) (fun _ => tm2) (fun q => absurd q notall) (fun r hr hrb hri hra => ?_) (fun r hr hrb hri hra => ?_)
      · obtain rfl := only r hr hrb hri hra
        exact ⟨hbig, fun t ht => pass_get _ _ _ hps ht, ⟨rfl, fun _ => rfl⟩, hhold⟩
      · obtain rfl := only r hr hrb hri hra
        refine stage_net huniq l _ _ _ _ hs (fun q hq hqb => ?_) (fun q hq => hm q (List.mem_cons_of_mem _ hq)) hp2
        rw [orbit]
        by_cases hqr : r.i = q.i
        · have := huniq r hr q hq hqr
          subst this
          simp only [decide_true, Bool.or_true]
          exact ⟨fun q2 => absurd rfl (hp1 r q2), fun q2 => by cases q2⟩
        · simp only [hqr, decide_false, Bool.or_false]
          rw [← hl q hq hqb, List.mem_cons]
          exact ⟨fun q2 => .inr q2, fun q2 => q2.resolve_left (fun e => hqr (by rw [e]))⟩
    · split at hs
      case h_2 => cases hs
      rename_i y _
      obtain ⟨hyr, hyb⟩ := hm y (by simp)
      have hne : b.i ≠ y.i := hp1 y (by simp)
      unfold tailE at hs
      split at hs
      case h_2 => cases hs
      rename_i l1 k1 l2 k2 hs1 hs2
      obtain ⟨hc, hs⟩ := bif_some hs
      simp only [Option.some.injEq, Prod.mk.injEq] at hs
      obtain ⟨rfl, rfl⟩ := hs
      simp only [Bool.and_eq_true, Bool.not_eq_true'] at hc
      obtain ⟨hln, hhx, hhy, hhz⟩ := hc
      have hln : l1 ≠ l2 := fun e => by subst e; simp at hln
      have hyi : bm.testBit y.i = false := (hl y hyr hyb).1 (by simp)
      have two : ∀ r ∈ rows, r.big = true → bm.testBit r.i = false → r = b ∨ r = y := fun r hr hrb hri => by simpa using (hl r hr hrb).2 hri
      have last : ∀ mu, Net P cf ye b0 gd rows all tm { h with hp := (h.hp.set l1 k1).set l2 k2 } (bm ||| bit b.i ||| bit y.i) mu tm { h with hp := (h.hp.set l1 k1).set l2 k2 } := fun mu => by
        have no : ∀ r ∈ rows, r.big = true → (bm ||| bit b.i ||| bit y.i).testBit r.i = false → False := fun r hr hrb hri => by
          rw [orbit, orbit] at hri
          simp only [Bool.or_eq_false_iff, decide_eq_false_iff_not] at hri
          rcases two r hr hrb hri.1.1 with q | q
          · exact hri.1.2 (by rw [q])
          · exact hri.2 (by rw [q])
        exact .mk _ _ tm _ (fun _ => .un) (fun _ => h) (fun _ => h) (fun _ => tm) (fun _ => ⟨rfl, rfl, fun _ => rfl⟩) (fun b hb hbb hbi _ => (no b hb hbb hbi).elim) (fun b hb hbb hbi _ => (no b hb hbb hbi).elim)
      have comm : ∀ m a c : Nat, m ||| a ||| c = m ||| c ||| a := fun m a c => by rw [Nat.or_assoc, Nat.or_comm a c, ← Nat.or_assoc]
      have netx : Net P cf ye b0 gd rows all tm { h with hp := (h.hp.set l1 k1).set l2 k2 } (bm ||| bit b.i) (must ||| b.anc) tm { h with hp := h.hp.set l1 k1 } := by
        have only : ∀ r ∈ rows, r.big = true → (bm ||| bit b.i).testBit r.i = false → r = y := fun r hr hrb hri => by
          rw [orbit] at hri
          simp only [Bool.or_eq_false_iff, decide_eq_false_iff_not] at hri
          exact (two r hr hrb hri.1).resolve_left (fun q => hri.2 (by rw [q]))
        have hev := storeOf_ev (cf := cf) (ye := ye) (gd := gd) hs2 { h with hp := h.hp.set l1 k1 } (by rw [T.get_set, if_neg hln])
        refine .mk _ _ tm _ (fun _ => .un) (fun _ => { h with hp := (h.hp.set l1 k1).set l2 k2 }) (fun _ => { h with hp := (h.hp.set l1 k1).set l2 k2 }) (fun _ => tm) (fun q => ?_) (fun r hr hrb hri _ => ?_) (fun r hr hrb hri _ => ?_)
        · have := q y hyr hyb
          rw [orbit, hyi] at this
          simp [hne] at this
        · obtain rfl := only r hr hrb hri
          exact ⟨hev.1, fun t _ => by rw [hev.2]; rfl, ⟨rfl, fun _ => rfl⟩, hhz⟩
        · obtain rfl := only r hr hrb hri
          exact last _
      have nety : Net P cf ye b0 gd rows all tm { h with hp := (h.hp.set l1 k1).set l2 k2 } (bm ||| bit y.i) (must ||| y.anc) tm { h with hp := h.hp.set l2 k2 } := by
        have only : ∀ r ∈ rows, r.big = true → (bm ||| bit y.i).testBit r.i = false → r = b := fun r hr hrb hri => by
          rw [orbit] at hri
          simp only [Bool.or_eq_false_iff, decide_eq_false_iff_not] at hri
          exact (two r hr hrb hri.1).resolve_right (fun q => hri.2 (by rw [q]))
        have hev := storeOf_ev (cf := cf) (ye := ye) (gd := gd) hs1 { h with hp := h.hp.set l2 k2 } (by rw [T.get_set, if_neg (fun q => hln q.symm)])
        refine .mk _ _ tm _ (fun _ => .un) (fun _ => { h with hp := (h.hp.set l2 k2).set l1 k1 }) (fun _ => { h with hp := (h.hp.set l1 k1).set l2 k2 }) (fun _ => tm) (fun q => ?_) (fun r hr hrb hri _ => ?_) (fun r hr hrb hri _ => ?_)
        · have := q b hbr hbb
          rw [orbit, hbi] at this
          simp [Ne.symm hne] at this
        · obtain rfl := only r hr hrb hri
          refine ⟨hev.1, fun t _ => by rw [hev.2]; rfl, ⟨rfl, fun m => ?_⟩, by rw [comm bm, comm must]; exact hhz⟩
          simp only [T.get_set]
          by_cases e1 : l1 = m
          · subst e1; rw [if_neg (fun q => hln q.symm), if_pos rfl, if_pos rfl]
          · by_cases e2 : l2 = m
            · rw [if_pos e2, if_neg e1, if_pos e2]
            · rw [if_neg e2, if_neg e1, if_neg e1, if_neg e2]
        · obtain rfl := only r hr hrb hri
          rw [comm bm, comm must]
          exact last _
      have hevb := storeOf_ev (cf := cf) (ye := ye) (gd := gd) hs1 h rfl
      have hevy := storeOf_ev (cf := cf) (ye := ye) (gd := gd) hs2 h rfl
      refine .mk bm must tm h (fun _ => .un) (fun r => if r.i = b.i then { h with hp := h.hp.set l1 k1 } else { h with hp := h.hp.set l2 k2 }) (fun r => if r.i = b.i then { h with hp := h.hp.set l1 k1 } else { h with hp := h.hp.set l2 k2 }) (fun _ => tm) (fun q => absurd q notall) (fun r hr hrb hri _ => ?_) (fun r hr hrb hri _ => ?_)
      · rcases two r hr hrb hri with rfl | rfl
        · rw [if_pos rfl]
          exact ⟨hevb.1, fun t _ => by rw [hevb.2]; rfl, ⟨rfl, fun _ => rfl⟩, hhx⟩
        · rw [if_neg (Ne.symm hne)]
          exact ⟨hevy.1, fun t _ => by rw [hevy.2]; rfl, ⟨rfl, fun _ => rfl⟩, hhy⟩
      · rcases two r hr hrb hri with rfl | rfl
        · rw [if_pos rfl]; exact netx
        · rw [if_neg (Ne.symm hne)]; exact nety

theorem draw_any {P : Program} {b0 : Nat} {cf : CF} {ye : YE} (hcf : SF P cf) (hye : SY P ye) {ops : Array Oper} {rows : List Row} {all nn : Nat} {df : List DF} (hg : Reg ops rows all) (hroom : ∀ r ∈ rows, ∀ t, r.o.dst = some t → t < nn)
    {r0 : Option Nat} {Q : Exit → Act → World → Prop} {tm' : T D} {h' : H} {M0 : Mem} {w0 : World} (hb0 : M0.nx ≤ b0) (hQ : ∀ M w a, Rep M { n := nn, tm := tm', h := h', df := df } w a → Ext M0 w0 M w → Q .normal a w) :
    ∀ (fuel bm must : Nat) (tm : T D) (h : H) (listed : Array Bool) (M : Mem) (w : World) (a : Act), Stage P b0 ops rows all nn df bm must tm h listed M w a →
      Net P cf ye b0 (fun j => (ops[j]?).bind (·.dst)) rows all tm' h' bm must tm h → Ext M0 w0 M w → (List.range ops.size).countP (fun k => !listed.getD k true) ≤ fuel → wpAnyIn (WF r0) 0 P .any ops Q fuel listed a w := by
  have fin : ∀ (bm must : Nat) (tm : T D) (h : H) (listed : Array Bool) (M : Mem) (w : World) (a : Act), Stage P b0 ops rows all nn df bm must tm h listed M w a →
      Net P cf ye b0 (fun j => (ops[j]?).bind (·.dst)) rows all tm' h' bm must tm h → Ext M0 w0 M w → (∀ i, i < ops.size → listed.getD i true = true) → Q .normal a w := by
    intro bm must tm h listed M w a hi hs he hall
    have hr : ∀ r ∈ rows, listed.getD r.i false = true := fun r hr => by
      have hlt := (Array.getElem?_eq_some_iff.1 (hg.row r hr)).1
      have := hall r.i hlt
      have h2 : r.i < listed.size := by rw [hi.size]; exact hlt
      simpa [Array.getD, h2] using this
    cases hs with
    | mk _ _ _ _ sd s1 s2 st hfin _ _ =>
    obtain ⟨rfl, e2, e3⟩ := hfin (fun b hb hbb => (hi.big b hb hbb).1 (hr b hb))
    exact hQ M w a ⟨hi.mem.same e3 e2, ⟨hi.sz, fun t d hd => hi.vals t d (fun r hr' _ _ => hr r hr') hd⟩, hi.df⟩ he
  intro fuel
  induction fuel with
  | zero =>
    intro bm must tm h listed M w a hi hs he hc
    have hall : ∀ i, i < ops.size → listed.getD i true = true := fun i hlt => by
      have := List.countP_eq_zero.1 (Nat.le_zero.1 hc) i (List.mem_range.2 hlt)
      simpa using this
    refine ⟨?_, fin _ _ _ _ _ _ _ _ hi hs he hall⟩
    cases hr : Region.ready .any ops listed with
    | nil => rfl
    | cons i r =>
      have := (mem_ready.1 (hr ▸ List.mem_cons_self (a := i) (l := r))).1
      obtain ⟨o, ho, _⟩ := (mem_ready.1 (hr ▸ List.mem_cons_self (a := i) (l := r))).2
      rw [hall i (Array.getElem?_eq_some_iff.1 ho).1] at this
      cases this
  | succ fuel ih =>
    intro bm must tm h listed M w a hi hs he hc
    refine ⟨fun hr => fin _ _ _ _ _ _ _ _ hi hs he (ready_all hg hi.size hr), fun i hri => ?_⟩
    obtain ⟨hun, o, ho, hedges⟩ := mem_ready.1 hri
    have hin : i < ops.size := (Array.getElem?_eq_some_iff.1 ho).1
    have his : i < listed.size := by rw [hi.size]; exact hin
    have hun' : listed.getD i false = false := by simpa [Array.getD, his] using hun
    obtain ⟨r, hr, hri'⟩ := hg.has i o ho
    have hro : r.o = o := by have := hg.row r hr; rw [hri', ho] at this; exact (Option.some.inj this).symm
    have hanc : ∀ x, r.anc.testBit x = true → listed.getD x false = true := fun x hx => by
      obtain ⟨e, e1, e2, e3⟩ := hg.anc r hr x hx
      have hl := hedges e (by rw [hro] at e1; exact Array.mem_toList_iff.1 e1) e2
      rcases e3 with rfl | ⟨k, k1, k2, k3⟩
      · exact hl
      · exact hi.closed k k1 (by rw [k2]; exact hl) x k3
    have hlook : ∀ t ∈ looks r.o (fun j => (ops[j]?).bind (·.dst)), okT rows listed t := fun t ht k hk hkb hkd => hanc _ (hg.looks r hr t ht k hk hkb hkd)
    have hopd : ∀ x ∈ r.o.op.operands, partF tm (okT rows listed) x = valT tm x := fun x hx => partF_eq fun t ht => hlook t (by
      subst ht
      unfold looks
      exact List.mem_append_left _ (List.mem_filterMap.2 ⟨.tmp t, by simpa using hx, rfl⟩))
    have hguard : ∀ b, guardE (fun j => (ops[j]?).bind (·.dst)) tm r.o.guard = some b → Region.wanted o (yielded ops a.tmps) = b := fun b hb => by
      rw [← hro]
      exact guard_ok' (fun j q t hgd ht d hd => hi.vals t d (hlook t (by unfold looks; rw [hgd]; simp only; rw [ht]; simp)) hd) hb
    have hRf : ∀ x, R M (partF tm (okT rows listed) x) (a.eval x) := partF_R hi.vals
    have hcount : (List.range ops.size).countP (fun k => !(listed.setIfInBounds i true).getD k true) ≤ fuel := by
      have := countP_set ops.size hin his hun
      omega
    have hset := fun j => getD_set (j := j) his
    have hclosed : ∀ k ∈ rows, (listed.setIfInBounds i true).getD k.i false = true → ∀ x, k.anc.testBit x = true → (listed.setIfInBounds i true).getD x false = true := by
      intro k hk hkl x hx
      rw [hset] at hkl ⊢
      split
      · rfl
      · split at hkl
        · rename_i hik
          have : k = r := hg.uniq k hk r hr (by omega)
          subst this
          exact hanc x hx
        · exact hi.closed k hk hkl x hx
    have helig : ∀ k ∈ rows, k.big = false → listed.getD k.i false = true → elig all bm k = true := fun k hk _ hkl => by
      unfold elig
      have : (k.anc &&& all) ||| bm = bm := by
        apply Nat.eq_of_testBit_eq
        intro x
        rw [Nat.testBit_or, Nat.testBit_and]
        cases h1 : k.anc.testBit x with
        | false => simp
        | true =>
          cases h2 : all.testBit x with
          | false => simp
          | true =>
            obtain ⟨q, q1, q2, rfl⟩ := (hg.all x).1 h2
            have := (hi.big q q1 q2).1 (hi.closed k hk hkl _ h1)
            simp [this]
      rw [this]
      exact Nat.beq_refl bm
    -- the value is put into its slot
    have hdf : ∀ (M' : Mem), M.le M' → ∀ v, DfsOk M' df (a.put o.dst v).defers := fun M' hl v => by rw [put_defers]; exact hi.df.mono hl
    have hresE : ∀ M' w', Ext M w M' w' → ∀ k ∈ rows, isAlloc k.o = true → (listed.setIfInBounds i true).getD k.i false = false → M'.μ (b0 + k.i) = .res ∧ b0 + k.i < M'.nx := fun M' w' e3 k hk hka hkl => by
      rw [hset] at hkl
      split at hkl
      · cases hkl
      · obtain ⟨q1, q2⟩ := hi.res k hk hka hkl
        exact ⟨e3.res _ q2 q1, Nat.lt_of_lt_of_le q2 e3.nx⟩
    unfold wpOpIn
    simp only [ho]
    cases hbig : r.big with
    | false =>
      have hhold := List.all_eq_true.1 hi.hold r hr
      have hel : elig all bm r = true := by
        unfold elig
        have : (r.anc &&& all) ||| bm = bm := by
          apply Nat.eq_of_testBit_eq
          intro x
          rw [Nat.testBit_or, Nat.testBit_and]
          cases h1 : r.anc.testBit x with
          | false => simp
          | true =>
            cases h2 : all.testBit x with
            | false => simp
            | true =>
              obtain ⟨q, q1, q2, rfl⟩ := (hg.all x).1 h2
              have := (hi.big q q1 q2).1 (hanc _ h1)
              simp [this]
        rw [this]
        exact Nat.beq_refl bm
      have hmu : must.testBit r.i = false := by
        cases hm : must.testBit r.i with
        | false => rfl
        | true => have := hi.must r hr hm; rw [hri', hun'] at this; cases this
      rw [hbig, hel, hmu] at hhold
      simp only [Bool.not_true, Bool.false_or] at hhold
      split at hhold
      case h_2 => cases hhold
      rename_i d hd
      have next0 : ∀ M' w' v, RH M' h w' → R M' d v → M.le M' → Ext M0 w0 M' w' → (∀ k ∈ rows, isAlloc k.o = true → (listed.setIfInBounds i true).getD k.i false = false → M'.μ (b0 + k.i) = .res ∧ b0 + k.i < M'.nx) →
          wpAnyIn (WF r0) 0 P .any ops Q fuel (listed.setIfInBounds i true) (a.put o.dst v) w' := by
        intro M' w' v e1 e2 hle hext hres
        refine ih bm must tm h _ M' w' _ ⟨by simpa using hi.size, hclosed, fun k hk hkb => ?_, fun k hk hkm => ?_, hi.hold, e1, by rw [put_size]; exact hi.sz, fun t e hok hte => ?_, hdf M' hle v, hres⟩ hs hext hcount
        · rw [hset, if_neg (fun q => by have := hg.uniq k hk r hr (by omega); rw [this, hbig] at hkb; cases hkb)]
          exact hi.big k hk hkb
        · rw [hset]
          split
          · rfl
          · exact hi.must k hk hkm
        · by_cases hdst : o.dst = some t
          · rw [hdst]
            have hlt : t < a.tmps.size := by rw [hi.sz]; exact hroom r hr t (by rw [hro]; exact hdst)
            rw [put_same hlt]
            rw [hro, hdst] at hhold
            simp only [hte] at hhold
            rw [← dEqb_eq _ _ hhold]
            exact e2
          · rw [put_other hdst]
            refine (hi.vals t e (fun k hk hkb hkd => ?_) hte).mono hle
            have := hok k hk hkb hkd
            rw [hset] at this
            split at this
            · rename_i hik
              have hkr := hg.uniq k hk r hr (by omega)
              rw [hkr, hro] at hkd
              exact absurd hkd hdst
            · exact this
      have next : ∀ M' w' v, RH M' h w' → R M' d v → Ext M w M' w' → wpAnyIn (WF r0) 0 P .any ops Q fuel (listed.setIfInBounds i true) (a.put o.dst v) w' :=
        fun M' w' v e1 e2 e3 => next0 M' w' v e1 e2 e3.le (he.trans e3) (hresE M' w' e3)
      unfold lightE at hd
      split at hd
      · rename_i hgd
        rw [if_pos (hguard true hgd)]
        cases hal : isAlloc r.o with
        | true =>
          rw [hal] at hd
          simp only [cond_true] at hd
          obtain ⟨hres1, hres2⟩ := hi.res r hr hal (by rw [hri']; exact hun')
          have fill : ∀ (obj : Obj) (k : Blk) (v : Value), (execOp a.eval o).run P w = .ok (.value v) (w.alloc obj) → h.hp.get (b0 + r.i) = some k →
              (M.le (M.set (b0 + r.i) (.blk w.heap.size 0) M.nx) → RB (M.set (b0 + r.i) (.blk w.heap.size 0) M.nx) (w.alloc obj) k w.heap.size 0) →
              ((M.set (b0 + r.i) (.blk w.heap.size 0) M.nx).at (b0 + r.i) w.heap.size → R (M.set (b0 + r.i) (.blk w.heap.size 0) M.nx) d v) →
              o.wpIn (WF r0) 0 P a w (wpAnyIn (WF r0) 0 P .any ops Q fuel (listed.setIfInBounds i true)) Q := by
            intro obj k0 v hrun hcell hRB hRv
            refine ⟨fun _ _ => trivial, ?_⟩
            rw [semAt_exec (fun c hc' => by
              rw [← hro] at hc'
              rw [isAlloc, hc'] at hal
              simp at hal), hrun]
            have hμ : ∀ l, (M.set (b0 + r.i) (.blk w.heap.size 0) M.nx).μ l = if l = b0 + r.i then .blk w.heap.size 0 else M.μ l := fun l => rfl
            have hle : M.le (M.set (b0 + r.i) (.blk w.heap.size 0) M.nx) := ⟨Nat.le_refl _, fun l hl => by
              rw [hμ]
              by_cases e : l = b0 + r.i
              · exact .inr (.inr (e ▸ hres1))
              · rw [if_neg e]; exact .inl rfl, fun _ _ h => h⟩
            have hold : ∀ b, b < w.heap.size → (w.alloc obj).heap[b]? = w.heap[b]? := fun b hb => Aw.halloc_old w _ b hb
            have hsz : (w.alloc obj).heap.size = w.heap.size + 1 := by simp
            have oldb : ∀ l b c, (M.set (b0 + r.i) (.blk w.heap.size 0) M.nx).μ l = .blk b c → (l = b0 + r.i ∧ b = w.heap.size) ∨ (l ≠ b0 + r.i ∧ M.μ l = .blk b c) := fun l b c e => by
              rw [hμ] at e
              by_cases q : l = b0 + r.i
              · rw [if_pos q] at e; cases e; exact .inl ⟨q, rfl⟩
              · rw [if_neg q] at e; exact .inr ⟨q, e⟩
            refine next0 (M.set (b0 + r.i) (.blk w.heap.size 0) M.nx) _ _ ⟨⟨fun l l' b c c' e e' => ?_, fun l b c e => ?_, fun l b c e => ?_, fun b q e => ?_, fun b q e l k e' => ?_⟩, fun l k e => ?_, hi.mem.nx⟩ (hRv ⟨hres2, fun b' c' e => by rw [hμ, if_pos rfl] at e; cases e; rfl, by rw [hμ, if_pos rfl]; simp, by rw [hμ, if_pos rfl]; simp⟩) hle ?_ (fun k hk hka hkl => ?_)
            · rcases oldb _ _ _ e with ⟨q1, q2⟩ | ⟨q1, q2⟩ <;> rcases oldb _ _ _ e' with ⟨p1, p2⟩ | ⟨p1, p2⟩
              · rw [q1, p1]
              · have := hi.mem.inv.lt _ _ _ p2; omega
              · have := hi.mem.inv.lt _ _ _ q2; omega
              · exact hi.mem.inv.inj _ _ _ _ _ q2 p2
            · rw [hsz]
              rcases oldb _ _ _ e with ⟨q1, q2⟩ | ⟨q1, q2⟩
              · omega
              · have := hi.mem.inv.lt _ _ _ q2; omega
            · rcases oldb _ _ _ e with ⟨q1, q2⟩ | ⟨q1, q2⟩
              · rw [q1]; exact hres2
              · exact hi.mem.inv.nx _ _ _ q2
            · obtain ⟨ty, fr, e2⟩ := hi.mem.inv.fz b q e
              exact ⟨ty, fr, (hold b (hi.mem.inv.fzlt e)).trans e2⟩
            · rcases oldb _ _ _ e' with ⟨q1, q2⟩ | ⟨q1, q2⟩
              · have := hi.mem.inv.fzlt (M := M) e; omega
              · exact hi.mem.inv.sep b q e l k q2
            · by_cases q : l = b0 + r.i
              · subst q
                rw [hcell] at e
                cases e
                rw [hμ, if_pos rfl]
                exact hRB hle
              · rw [hμ, if_neg q]
                exact (hi.mem.hp l k e).mono hle (fun b c e2 => hold b (hi.mem.inv.lt _ _ _ e2))
            · refine ⟨he.os, he.tape, he.output, by rw [hsz]; have := he.size; omega, fun b hb hn => (hold b (Nat.lt_of_lt_of_le hb he.size)).trans (he.keep b hb hn), fun l b c e => ?_, he.nx, fun l hl => ?_, he.fz, he.fznew, fun l hl e => ?_⟩
              · rcases oldb _ _ _ e with ⟨q1, q2⟩ | ⟨q1, q2⟩
                · exact .inr (by rw [q2]; exact he.size)
                · exact he.new l b c q2
              · rw [hμ, if_neg (by omega)]; exact he.mono l hl
              · rw [hμ, if_neg (by omega)]; exact he.res l hl e
            · rw [hset] at hkl
              split at hkl
              · cases hkl
              · rename_i hki
                obtain ⟨q1, q2⟩ := hi.res k hk hka hkl
                exact ⟨by rw [hμ, if_neg (by omega)]; exact q1, q2⟩
          unfold allocV at hd
          split at hd
          case h_4 => cases hd
          · rename_i t hop
            split at hd
            case h_2 => cases hd
            rename_i ti hti
            obtain ⟨it, dt, zt, ht⟩ := tiOf_spec hti
            split at hd
            case h_2 => cases hd
            rename_i t' ds hcell
            obtain ⟨hc, hd⟩ := bif_some hd
            cases hd
            simp only [Bool.and_eq_true] at hc
            have := Nat.eq_of_beq_eq_true hc.1
            subst this
            have hds := lEqb_eq _ _ hc.2
            subst hds
            obtain ⟨hz1, hz2⟩ := zeros_get ht M
            have hrun : (execOp a.eval o).run P w = .ok (.value (.pointer (some ⟨w.heap.size, 0, none⟩))) (w.alloc (.cells zt.cells t)) := by
              rw [hro] at hop
              simp [execOp, hop, Instr.alloc, zeroValue, typeInfo, ht.info, ht.zero, newVar, newRow, Sem.run_bind]
            exact fill _ _ _ hrun hcell (fun hle => ⟨zt.cells, Aw.halloc_new w _, hz1, fun j x hj => ⟨(hz2 j x hj).1, (hz2 j x hj).2.mono hle⟩⟩) (fun ha => .pt _ _ _ ha)
          · rename_i t hop
            split at hd
            case h_2 => cases hd
            rename_i es hcell
            obtain ⟨hc, hd⟩ := bif_some hd
            cases hd
            have : es = [] := by simpa using hc
            subst this
            have hrun : (execOp a.eval o).run P w = .ok (.value (.map (some w.heap.size))) (w.alloc (.map #[] 0)) := by
              rw [hro] at hop
              simp [execOp, hop, Instr.makeMap, Sem.run_bind]
            exact fill _ _ _ hrun hcell (fun hle => ⟨#[], Aw.halloc_new w _, rfl, fun i p hp => by simp at hp⟩) (fun ha => .mp _ _ ha)
          · rename_i t x y hop
            split at hd
            case h_2 => cases hd
            rename_i tsize tbytes e tz htt
            obtain ⟨it, dt, zt, ht⟩ := tiOf_spec htt
            have hte := Aw.und_sl ht rfl
            split at hd
            case h_2 => cases hd
            rename_i ti kn n kc c hti hx hy
            obtain ⟨i', d', z, hi'⟩ := tiOf_spec hti
            split at hd
            case h_2 => cases hd
            rename_i t' ds hcell
            obtain ⟨hc, hd⟩ := bif_some hd
            cases hd
            simp only [Bool.and_eq_true, Nat.ble_eq, Nat.blt_eq] at hc
            obtain ⟨hsz, hnc, hbt, hcm, het, hds⟩ := hc
            have := Nat.eq_of_beq_eq_true hnc
            subst this
            have := Nat.eq_of_beq_eq_true het
            subst this
            have hds := lEqb_eq _ _ hds
            subst hds
            have hvx := hRf x
            rw [hopd x (by rw [hop]; simp [Op.operands]), hx] at hvx
            have hvy := hRf y
            rw [hopd y (by rw [hop]; simp [Op.operands]), hy] at hvy
            have hzc : z.cells.size = ti.size := by rw [← Array.length_toList, hi'.cells]; simpa using hi'.len
            have hrun := run_make (P := P) w t e i' z hte hi'.info hi'.zero kn kc (n : Int) (n : Int) (by omega) (by omega) (by rw [hi'.bytes, ← Int.natCast_mul]; omega) (by omega)
            rw [hi'.size] at hrun
            simp only [Int.toNat_natCast] at hrun
            have hms : (madeCells z.cells (n * ti.size)).size = n * ti.size := by simp [madeCells]
            have hrun' : (execOp a.eval o).run P w = .ok (.value (.slice (some ⟨w.heap.size, 0, none⟩) n n)) (w.alloc (.cells (madeCells z.cells (n * ti.size)) e)) := by
              rw [hro] at hop
              have e1 : a.eval x = .int kn n := hvx.litE
              have e2 : a.eval y = .int kc n := hvy.litE
              simp only [execOp, hop, e1, e2, Sem.run_bind, hrun, Result.andThen_ok, Sem.run_pure]
            refine fill _ _ _ hrun' hcell (fun hle => ⟨_, Aw.halloc_new w _, by rw [hms, zerosE_length ti hi'.len], fun j q hj => ?_⟩) (fun ha => .sl _ _ _ _ _ _ ha (fun q hq => by cases hq; rfl) (by simp) (Nat.le_refl _) (by simpa [maxLen] using hcm))
            have hlt : j < n * ti.size := by rw [← zerosE_length ti hi'.len n]; exact (List.getElem?_eq_some_iff.1 hj).1
            have : (madeCells z.cells (n * ti.size)).getD j undef = z.cells[j % z.cells.size]! := by
              simp [madeCells, Array.getD_eq_getD_getElem?, hlt]
            rw [this]
            exact zeros_cells hi' hsz _ n j q hj
        | false =>
        rw [hal] at hd
        simp only [cond_false, Option.map_eq_some_iff] at hd
        obtain ⟨⟨d1, h1⟩, hop, rfl⟩ := hd
        have hrd := (hg.read r hr hbig).resolve_right (by rw [hal]; simp)
        have hsame := reader_same hrd hop
        subst hsame
        have hev : evalOp P cf ye (partF tm (okT rows listed)) h1 o.op = some (d1, h1) := by
          rw [← hro, evalOp_congr hopd, evalOp_reader hrd]
          exact hop
        exact evalOp_ok hcf hye hi.mem hRf hev _ _ fun M' w' v e1 e2 e3 => next M' w' v e1 e2 e3
      · rename_i hgd
        cases hd
        rw [if_neg (by rw [hguard false hgd]; simp)]
        exact ⟨fun _ _ => trivial, next M w undef hi.mem .un (Ext.refl M w)⟩
      · cases hd
    | true =>
      have hav : ∀ k ∈ rows, k.big = true → r.anc.testBit k.i = true → bm.testBit k.i = true := fun k hk hkb hka => (hi.big k hk hkb).1 (hanc _ hka)
      have hbi : bm.testBit r.i = false := by
        cases hb : bm.testBit r.i with
        | false => rfl
        | true => have := (hi.big r hr hbig).2 hb; rw [hri', hun'] at this; cases this
      cases hs with
      | mk _ _ _ _ sd s1 s2 st hfin hok hnext =>
      obtain ⟨hbe, hpass, ⟨hnx2, hget2⟩, hhold⟩ := hok r hr hbig hbi hav
      have hst := hnext r hr hbig hbi hav
      have step : ∀ M' w' v, RH M' (s1 r) w' → R M' (sd r) v → Ext M w M' w' → wpAnyIn (WF r0) 0 P .any ops Q fuel (listed.setIfInBounds i true) (a.put o.dst v) w' := by
        intro M' w' v e1 e2 e3
        refine ih _ _ (st r) (s2 r) _ M' w' _ ⟨by simpa using hi.size, hclosed, fun k hk hkb => ?_, fun k hk hkm => ?_, hhold, e1.same hget2 hnx2, by rw [put_size]; exact hi.sz, fun t e hok hte => ?_, hdf M' e3.le v, hresE M' w' e3⟩ hst (he.trans e3) hcount
        · rw [hset, Nat.testBit_or, testBit_bit]
          by_cases hik : i = k.i
          · rw [if_pos hik]; simp [hri', hik]
          · rw [if_neg hik]
            have : ¬ r.i = k.i := by omega
            simp only [this, decide_false, Bool.or_false]
            exact hi.big k hk hkb
        · rw [Nat.testBit_or] at hkm
          rw [hset]
          split
          · rfl
          · rcases Bool.or_eq_true _ _ |>.mp hkm with q | q
            · exact hi.must k hk q
            · exact hanc _ q
        · have hold : ∀ k ∈ rows, k.big = false → k.o.dst = some t → listed.getD k.i false = true := fun k hk hkb hkd => by
            have := hok k hk hkb hkd
            rw [hset] at this
            split at this
            · rename_i hik
              have hkr := hg.uniq k hk r hr (by omega)
              rw [hkr, hbig] at hkb
              cases hkb
            · exact this
          rw [hpass t fun k hk hkb _ hko hkd => by
            have := helig k hk hkb (hold k hk hkb hkd)
            simp only [oldE] at hko
            rw [this] at hko
            cases hko] at hte
          by_cases hdst : o.dst = some t
          · rw [hro, hdst] at hte
            simp only [putT, T.get_set, if_pos, Option.some.injEq] at hte
            subst hte
            rw [hdst]
            have hlt : t < a.tmps.size := by rw [hi.sz]; exact hroom r hr t (by rw [hro]; exact hdst)
            rw [put_same hlt]
            exact e2
          · rw [put_other hdst]
            have : (putT tm r.o.dst (sd r)).get t = tm.get t := by
              rw [hro]
              cases hd2 : o.dst with
              | none => rfl
              | some u =>
                simp only [putT, T.get_set]
                rw [if_neg (fun e => hdst (by rw [hd2, e]))]
            rw [this] at hte
            exact (hi.vals t e hold hte).mono e3.le
      unfold bigE at hbe
      split at hbe
      · rename_i hgd
        rw [if_pos (hguard true hgd)]
        have hev : evalOp P cf ye (partF tm (okT rows listed)) h o.op = some (sd r, s1 r) := by
          rw [← hro, evalOp_congr hopd]
          exact hbe
        exact evalOp_ok hcf hye hi.mem hRf hev _ _ fun M' w' v e1 e2 e3 => step M' w' v e1 e2 e3
      · rename_i hgd
        simp only [Option.some.injEq, Prod.mk.injEq] at hbe
        obtain ⟨hb1, hb2⟩ := hbe
        rw [if_neg (by rw [hguard false hgd]; simp)]
        exact ⟨fun _ _ => trivial, step M w undef (hb2 ▸ hi.mem) (hb1 ▸ .un) (Ext.refl M w)⟩
      · cases hbe

theorem resv_get {P : Program} {b0 : Nat} {pre : T D} (l : Nat) : ∀ (rows : List Row) (hp : T Blk), (∀ r ∈ rows, isAlloc r.o = true → b0 + r.i ≠ l) → (resv P b0 pre rows hp).get l = hp.get l
  | [], hp, _ => rfl
  | r :: rows, hp, h => by
    simp only [resv]
    rw [resv_get l rows _ (fun q hq => h q (List.mem_cons_of_mem _ hq))]
    cases ha : isAlloc r.o with
    | false => rfl
    | true =>
      simp only [cond_true]
      split
      · split
        · rw [T.get_set, if_neg (h r (by simp) ha)]
        · rfl
      · rw [T.get_set, if_neg (h r (by simp) ha)]
      · split
        · split
          · rw [cond_eq_ite]
            split
            · rw [T.get_set, if_neg (h r (by simp) ha)]
            · rfl
          · rfl
        · rfl
      · rfl

/-- Names are set aside. -/
theorem resv_ok {P : Program} {M : Mem} {h : H} {w : World} (hr : RH M h w) {rows : List Row} {pre : T D} {N : Nat} (hN : ∀ r ∈ rows, r.i < N) :
    ∃ M', RH M' { hp := bif rows.any (fun r => isAlloc r.o) then resv P h.nx pre rows h.hp else h.hp, nx := h.nx + (bif rows.any (fun r => isAlloc r.o) then N else 0) } w ∧ Ext M w M' w ∧ ∀ r ∈ rows, isAlloc r.o = true → M'.μ (h.nx + r.i) = .res ∧ h.nx + r.i < M'.nx := by
  generalize hK : (bif rows.any (fun r => isAlloc r.o) then N else 0) = K
  have hlt : ∀ r ∈ rows, isAlloc r.o = true → r.i < K := fun r hr ha => by
    have : rows.any (fun r => isAlloc r.o) = true := List.any_eq_true.2 ⟨r, hr, ha⟩
    rw [this] at hK
    simp only [cond_true] at hK
    rw [← hK]
    exact hN r hr
  let M' : Mem := { μ := fun l => if h.nx ≤ l ∧ l < h.nx + K then .res else M.μ l, nx := h.nx + K, fz := M.fz }
  have hμ : ∀ l, M'.μ l = if h.nx ≤ l ∧ l < h.nx + K then .res else M.μ l := fun l => rfl
  have old : ∀ l b c, M'.μ l = .blk b c → M.μ l = .blk b c := fun l b c e => by
    rw [hμ] at e
    split at e
    · cases e
    · exact e
  have hnx := hr.nx
  have same : ∀ l, l < M.nx → M'.μ l = M.μ l := fun l hl => by rw [hμ, if_neg (by omega)]
  have hle : M.le M' := ⟨by show M.nx ≤ h.nx + K; omega, fun l hl => .inl (same l hl), fun _ _ h => h⟩
  refine ⟨M', ⟨⟨fun l l' b c c' e e' => hr.inv.inj l l' b c c' (old _ _ _ e) (old _ _ _ e'), fun l b c e => hr.inv.lt l b c (old _ _ _ e), fun l b c e => ?_, hr.inv.fz, fun b q e l k e' => hr.inv.sep b q e l k (old _ _ _ e')⟩, fun l k e => ?_, rfl⟩,
    ⟨rfl, rfl, rfl, Nat.le_refl _, fun _ _ _ => rfl, fun l b c e => .inl ⟨l, c, old _ _ _ e⟩, hle.nx, fun l hl => .inl (same l hl), fun _ _ h => h, fun _ _ h => .inl h, fun l hl e => (same l hl).trans e⟩, fun r hr ha => ?_⟩
  · have := hr.inv.nx l b c (old _ _ _ e)
    show l < h.nx + K
    omega
  · by_cases q : h.nx ≤ l ∧ l < h.nx + K
    · rw [hμ, if_pos q]; trivial
    · rw [hμ, if_neg q]
      have e : (bif rows.any (fun r => isAlloc r.o) then resv P h.nx pre rows h.hp else h.hp).get l = some k := e
      rw [cond_eq_ite] at e
      split at e
      case isFalse => exact (hr.hp l k e).mono hle (fun _ _ _ => rfl)
      rw [resv_get l rows h.hp (fun r hr ha e2 => q (by have := hlt r hr ha; omega))] at e
      exact (hr.hp l k e).mono hle (fun _ _ _ => rfl)
  · have := hlt r hr ha
    exact ⟨by rw [hμ, if_pos (by omega)], by show _ < h.nx + K; omega⟩

theorem draw_ok {P : Program} {cf : CF} {ye : YE} (hcf : SF P cf) (hye : SY P ye) : SD P (drawE P cf ye) := by
  intro ops s s' he id r M w a Q hr hK
  unfold drawE at he
  simp only at he
  split at he
  case h_2 => cases he
  rename_i as has
  obtain ⟨hc, he⟩ := bif_some he
  simp only [Bool.and_eq_true] at hc
  obtain ⟨c2, c3, c4, c5⟩ := hc
  split at he
  case h_2 => cases he
  rename_i tm hps
  obtain ⟨hhold, he⟩ := bif_some he
  split at he
  case h_2 => cases he
  rename_i tm' h' hst
  cases he
  have hg := reg_ok has c2 c3
  have hroom : ∀ r ∈ rowsOf ops.toList as (ops.toList.flatMap fun o => looks o fun j => (ops[j]?).bind (·.dst)) 0, ∀ t, r.o.dst = some t → t < s.n := fun r hr t ht => by
    have ho := hg.row r hr
    have := List.all_eq_true.1 c4 r.o (by rw [← Array.mem_def]; exact Array.mem_of_getElem? ho)
    rw [ht] at this
    simpa [St.room, Nat.blt_eq] using this
  refine wpIn_region_any c5 ?_
  obtain ⟨d1', d2'⟩ := hr.h.drawn (w.drawn + 1)
  obtain ⟨M1, g1, g2, g3⟩ := resv_ok (P := P) (pre := preE P s.h (fun j => (ops[j]?).bind (·.dst)) (rowsOf ops.toList as (ops.toList.flatMap fun o => looks o fun j => (ops[j]?).bind (·.dst)) 0) s.tm) (rows := rowsOf ops.toList as (ops.toList.flatMap fun o => looks o fun j => (ops[j]?).bind (·.dst)) 0) (N := ops.size) d1' (fun r hr => (Array.getElem?_eq_some_iff.1 (hg.row r hr)).1)
  have d2 := d2'.trans g2
  have hf : ∀ j, (Array.replicate ops.size false).getD j false = false := fun j => by
    simp only [Array.getD_eq_getD_getElem?, Array.getElem?_replicate]
    split <;> rfl
  refine draw_any hcf hye hg hroom (r0 := r) (Q := Q) (tm' := tm') (h' := h') (b0 := s.h.nx) (M0 := M) (w0 := w) (df := s.df) (Nat.le_of_eq hr.h.nx.symm) (fun M' w' a' e1 e2 => hK M' w' a' e1 e2) ops.size 0 0 tm _ _ M1 { w with drawn := w.drawn + 1 } a
    ⟨by simp, fun k hk hkl => (by rw [hf] at hkl; cases hkl), fun k hk hkb => (by rw [hf]; simp), fun k hk hkm => (by simp at hkm), hhold, g1, hr.t.1, fun t e hok hte => ?_, hr.df.mono d2.le, fun r hr' hra _ => g3 r hr' hra⟩ (stage_net hg.uniq _ 0 0 tm _ hst (fun r hr hrb => ⟨fun _ => by simp, fun _ => List.mem_filter.2 ⟨hr, hrb⟩⟩) (fun r hr => List.mem_filter.1 hr) ((rowsOf_pair _ _ _ _).filter _)) d2 ?_
  · rw [pass_get _ _ _ hps fun k hk hkb _ _ hkd => by have := hok k hk hkb hkd; rw [hf] at this; cases this] at hte
    exact (hr.t.2 t e hte).mono d2.le
  · exact Nat.le_trans List.countP_le_length (by simp)

/-- The engine is sound. -/
theorem eng_sound {P : Program} {ex : CF} (hex : SX P ex) (N n : Nat) : SF P (eng P ex (drawE P) N n).1 := (eng_ok hex (fun _ _ h1 h2 => draw_ok h1 h2) N n).1
#print axioms eng_sound
end Go.Ev
