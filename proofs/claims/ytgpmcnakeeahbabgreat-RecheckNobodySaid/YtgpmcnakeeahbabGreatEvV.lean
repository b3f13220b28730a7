/-
  Regions that draw their order: the proof.
-/
import Derived.Test.YtgpmcnakeeahbabGreatEvW
namespace Go.Ev
open Go.Aw (WF)

theorem testBit_bit (i a : Nat) : (bit i).testBit a = decide (i = a) := by
  unfold bit
  rw [Nat.one_shiftLeft, Nat.testBit_two_pow]

theorem foldl_anc (acc : List Nat) : ∀ (es : List Edge) (m a : Nat), (es.foldl (fun m e => bif Region.binds .any e then m ||| ((1 <<< e.on) ||| acc.getD e.on 0) else m) m).testBit a = true →
    m.testBit a = true ∨ ∃ e ∈ es, Region.binds .any e = true ∧ (e.on = a ∨ (acc.getD e.on 0).testBit a = true)
  | [], m, a, h => .inl h
  | e :: es, m, a, h => by
    simp only [List.foldl_cons] at h
    rcases foldl_anc acc es _ a h with h1 | ⟨e', h1, h2⟩
    · rw [cond_eq_ite] at h1
      split at h1
      · rename_i hb
        rw [Nat.testBit_or, Nat.testBit_or] at h1
        simp only [Bool.or_eq_true] at h1
        rcases h1 with h1 | h1 | h1
        · exact .inl h1
        · have := testBit_bit e.on a
          unfold bit at this
          rw [this] at h1
          exact .inr ⟨e, by simp, hb, .inl (by simpa using h1)⟩
        · exact .inr ⟨e, by simp, hb, .inr h1⟩
      · exact .inl h1
    · exact .inr ⟨e', List.mem_cons_of_mem _ h1, h2⟩

/-- What 'ancsGo' tells. -/
theorem ancsGo_ok : ∀ (l : List Oper) (acc as : List Nat), ancsGo l acc = some as →
    as.length = acc.length + l.length ∧ (∀ i, i < acc.length → as[i]? = acc[i]?) ∧
    ∀ k o, l[k]? = some o → ∃ m, as[acc.length + k]? = some m ∧ (∀ e ∈ o.after.toList, Region.binds .any e = true → e.on < acc.length + k) ∧
      ∀ a, m.testBit a = true → ∃ e ∈ o.after.toList, Region.binds .any e = true ∧ (e.on = a ∨ ∃ m', as[e.on]? = some m' ∧ m'.testBit a = true)
  | [], acc, as, h => by
    simp only [ancsGo, Option.some.injEq] at h
    subst h
    exact ⟨by simp, fun _ _ => rfl, by simp⟩
  | o :: r, acc, as, h => by
    simp only [ancsGo] at h
    obtain ⟨hc, h⟩ := bif_some h
    obtain ⟨h1, h2, h3⟩ := ancsGo_ok r _ as h
    simp only [List.length_append, List.length_cons, List.length_nil] at h1 h2 h3
    have hb : ∀ e ∈ o.after.toList, Region.binds .any e = true → e.on < acc.length := fun e he hbe => by
      have := List.all_eq_true.1 hc e he
      rw [hbe] at this
      simpa [Nat.blt_eq] using this
    refine ⟨by simp; omega, fun i hi => by rw [h2 i (by omega), List.getElem?_append_left hi], fun k o' hk => ?_⟩
    cases k with
    | zero =>
      simp only [List.getElem?_cons_zero, Option.some.injEq] at hk
      subst hk
      refine ⟨_, by rw [Nat.add_zero, h2 _ (by omega), List.getElem?_append_right (Nat.le_refl _), Nat.sub_self, List.getElem?_cons_zero], fun e he hbe => by have := hb e he hbe; omega, fun a ha => ?_⟩
      rcases foldl_anc acc _ _ a ha with q | ⟨e, he, hbe, q⟩
      · simp at q
      · refine ⟨e, he, hbe, q.imp id fun q => ?_⟩
        have hlt := hb e he hbe
        refine ⟨acc.getD e.on 0, ?_, q⟩
        rw [h2 _ (by omega), List.getElem?_append_left hlt]
        simp [List.getD_eq_getElem?_getD, List.getElem?_eq_getElem hlt]
    | succ k =>
      obtain ⟨m, e1, e2, e3⟩ := h3 k o' (by simpa using hk)
      exact ⟨m, by rw [show acc.length + (k + 1) = acc.length + 1 + k by omega]; exact e1, fun e he hbe => by have := e2 e he hbe; omega, e3⟩

/-- What 'rowsOf' tells. -/
theorem rowsOf_ok (rd : List Tmp) : ∀ (l : List Oper) (as : List Nat) (i : Nat), l.length = as.length →
    (∀ r ∈ rowsOf l as rd i, i ≤ r.i ∧ l[r.i - i]? = some r.o ∧ as[r.i - i]? = some r.anc ∧ (r.big = false → isReader r.o.op = true ∨ isAlloc r.o = true)) ∧
    (∀ k o, l[k]? = some o → ∃ r ∈ rowsOf l as rd i, r.i = i + k ∧ r.o = o)
  | [], [], i, _ => by simp [rowsOf]
  | [], _ :: _, i, h => by simp at h
  | _ :: _, [], i, h => by simp at h
  | o :: l, a :: as, i, h => by
    obtain ⟨h1, h2⟩ := rowsOf_ok rd l as (i + 1) (by simpa using h)
    refine ⟨fun r hr => ?_, fun k o' hk => ?_⟩
    · simp only [rowsOf, List.mem_cons] at hr
      rcases hr with rfl | hr
      · refine ⟨Nat.le_refl _, by simp, by simp, fun hb => ?_⟩
        cases ha : isAlloc o with
        | true => exact .inr rfl
        | false =>
          rw [ha] at hb
          simp only [Bool.not_false, Bool.true_and, Bool.or_eq_false_iff, Bool.not_eq_false'] at hb
          exact .inl hb.1
      · obtain ⟨g1, g2, g3, g4⟩ := h1 r hr
        refine ⟨by omega, ?_, ?_, g4⟩
        · rw [show r.i - i = (r.i - (i + 1)) + 1 by omega]; simpa using g2
        · rw [show r.i - i = (r.i - (i + 1)) + 1 by omega]; simpa using g3
    · cases k with
      | zero =>
        simp only [List.getElem?_cons_zero, Option.some.injEq] at hk
        subst hk
        exact ⟨_, by simp [rowsOf]; left; rfl, rfl, rfl⟩
      | succ k =>
        obtain ⟨r, g1, g2, g3⟩ := h2 k o' (by simpa using hk)
        exact ⟨r, by simp only [rowsOf, List.mem_cons]; exact .inr g1, by omega, g3⟩

/-- The big ones stand one behind the other. -/
theorem chain_ok : ∀ (l : List Row) (m : Nat), chainOk m l = true → (∀ r ∈ l, r.big = true → ∀ a, m.testBit a = true → r.anc.testBit a = true) ∧ List.Pairwise (fun b r : Row => r.anc.testBit b.i = true) (l.filter (·.big))
  | [], m, _ => by simp
  | r :: l, m, h => by
    simp only [chainOk] at h
    rw [cond_eq_ite] at h
    split at h
    · rename_i hb
      simp only [Bool.and_eq_true] at h
      obtain ⟨h1, h2⟩ := h
      have h1 := Nat.eq_of_beq_eq_true h1
      obtain ⟨g1, g2⟩ := chain_ok l _ h2
      refine ⟨fun q hq hqb a ha => ?_, ?_⟩
      · rcases List.mem_cons.1 hq with rfl | hq
        · rw [← h1, Nat.testBit_and] at ha
          simp only [Bool.and_eq_true] at ha
          exact ha.2
        · exact g1 q hq hqb a (by rw [Nat.testBit_or, ha]; rfl)
      · rw [List.filter_cons_of_pos hb]
        refine List.pairwise_cons.2 ⟨fun q hq => ?_, g2⟩
        obtain ⟨q1, q2⟩ := List.mem_filter.1 hq
        exact g1 q q1 q2 r.i (by rw [Nat.testBit_or, testBit_bit]; simp)
    · rename_i hb
      obtain ⟨g1, g2⟩ := chain_ok l _ h
      refine ⟨fun q hq hqb a ha => ?_, by rw [List.filter_cons_of_neg hb]; exact g2⟩
      rcases List.mem_cons.1 hq with rfl | hq
      · exact absurd hqb hb
      · exact g1 q hq hqb a ha

theorem bigMask_ok : ∀ (l : List Row) (m a : Nat), (l.foldl (fun m r => bif r.big then m ||| bit r.i else m) m).testBit a = true ↔ m.testBit a = true ∨ ∃ r ∈ l, r.big = true ∧ r.i = a
  | [], m, a => by simp
  | r :: l, m, a => by
    simp only [List.foldl_cons, bigMask_ok l, List.mem_cons]
    cases hb : r.big with
    | true =>
      simp only [cond_true, Nat.testBit_or, testBit_bit, Bool.or_eq_true, decide_eq_true_eq]
      constructor
      · rintro ((h | h) | ⟨q, h1, h2, h3⟩)
        · exact .inl h
        · exact .inr ⟨r, .inl rfl, hb, h⟩
        · exact .inr ⟨q, .inr h1, h2, h3⟩
      · rintro (h | ⟨q, (rfl | h1), h2, h3⟩)
        · exact .inl (.inl h)
        · exact .inl (.inr h3)
        · exact .inr ⟨q, h1, h2, h3⟩
    | false =>
      simp only [cond_false]
      constructor
      · rintro (h | ⟨q, h1, h2, h3⟩)
        · exact .inl h
        · exact .inr ⟨q, .inr h1, h2, h3⟩
      · rintro (h | ⟨q, (rfl | h1), h2, h3⟩)
        · exact .inl h
        · rw [hb] at h2; cases h2
        · exact .inr ⟨q, h1, h2, h3⟩

theorem rowsOf_uniq (rd : List Tmp) : ∀ (l : List Oper) (as : List Nat) (i : Nat), ∀ r ∈ rowsOf l as rd i, ∀ k ∈ rowsOf l as rd i, r.i = k.i → r = k
  | [], _, i, r, hr, _, _, _ => by simp [rowsOf] at hr
  | _ :: _, [], i, r, hr, _, _, _ => by simp [rowsOf] at hr
  | o :: l, a :: as, i, r, hr, k, hk, h => by
    have low : ∀ (l : List Oper) (as : List Nat) (j : Nat), ∀ q ∈ rowsOf l as rd j, j ≤ q.i := by
      intro l
      induction l with
      | nil => intro as j q hq; simp [rowsOf] at hq
      | cons o l ih =>
        intro as j q hq
        cases as with
        | nil => simp [rowsOf] at hq
        | cons a as =>
          simp only [rowsOf, List.mem_cons] at hq
          rcases hq with rfl | hq
          · exact Nat.le_refl _
          · have := ih as (j + 1) q hq; omega
    simp only [rowsOf, List.mem_cons] at hr hk
    rcases hr with rfl | hr <;> rcases hk with rfl | hk
    · rfl
    · have := low _ _ _ _ hk; simp at h; omega
    · have := low _ _ _ _ hr; simp at h; omega
    · exact rowsOf_uniq rd l as (i + 1) r hr k hk h

theorem rowsOf_low (rd : List Tmp) : ∀ (l : List Oper) (as : List Nat) (j : Nat), ∀ q ∈ rowsOf l as rd j, j ≤ q.i
  | [], _, j, q, hq => by simp [rowsOf] at hq
  | _ :: _, [], j, q, hq => by simp [rowsOf] at hq
  | o :: l, a :: as, j, q, hq => by
    simp only [rowsOf, List.mem_cons] at hq
    rcases hq with rfl | hq
    · exact Nat.le_refl _
    · have := rowsOf_low rd l as (j + 1) q hq; omega

theorem rowsOf_pair (rd : List Tmp) : ∀ (l : List Oper) (as : List Nat) (j : Nat), (rowsOf l as rd j).Pairwise (fun a b => a.i ≠ b.i)
  | [], _, j => by simp [rowsOf]
  | _ :: _, [], j => by simp [rowsOf]
  | o :: l, a :: as, j => by
    simp only [rowsOf]
    refine List.pairwise_cons.2 ⟨fun q hq => ?_, rowsOf_pair rd l as (j + 1)⟩
    have := rowsOf_low rd l as (j + 1) q hq
    show j ≠ q.i
    omega

/-- What is known of a region, once and for all. -/
structure Reg (ops : Array Oper) (rows : List Row) (all : Nat) : Prop where
  row : ∀ r ∈ rows, ops[r.i]? = some r.o
  has : ∀ i o, ops[i]? = some o → ∃ r ∈ rows, r.i = i
  uniq : ∀ r ∈ rows, ∀ k ∈ rows, r.i = k.i → r = k
  anc : ∀ r ∈ rows, ∀ a, r.anc.testBit a = true → ∃ e ∈ r.o.after.toList, Region.binds .any e = true ∧ (e.on = a ∨ ∃ k ∈ rows, k.i = e.on ∧ k.anc.testBit a = true)
  lt : ∀ r ∈ rows, ∀ e ∈ r.o.after.toList, Region.binds .any e = true → e.on < r.i
  read : ∀ r ∈ rows, r.big = false → isReader r.o.op = true ∨ isAlloc r.o = true
  all : ∀ a, all.testBit a = true ↔ ∃ r ∈ rows, r.big = true ∧ r.i = a
  looks : ∀ r ∈ rows, ∀ t ∈ looks r.o (fun j => (ops[j]?).bind (·.dst)), ∀ k ∈ rows, k.big = false → k.o.dst = some t → r.anc.testBit k.i = true
  dsts : ∀ r ∈ rows, r.big = false → ∀ t, r.o.dst = some t → ∀ k ∈ rows, k.o.dst = some t → k.i = r.i

theorem reg_ok {ops : Array Oper} {as : List Nat} {rd : List Tmp} (ha : ancsGo ops.toList [] = some as) 
    (hl : looksOk (fun j => (ops[j]?).bind (·.dst)) (rowsOf ops.toList as rd 0) = true) (hd : dstsOk (rowsOf ops.toList as rd 0) = true) : Reg ops (rowsOf ops.toList as rd 0) (bigMask (rowsOf ops.toList as rd 0)) := by
  obtain ⟨a1, _, a3⟩ := ancsGo_ok _ _ _ ha
  simp only [List.length_nil, Nat.zero_add] at a1 a3
  obtain ⟨r1, r2⟩ := rowsOf_ok rd ops.toList as 0 a1.symm
  simp only [Nat.sub_zero, Nat.zero_add] at r1 r2
  have hrow : ∀ r ∈ rowsOf ops.toList as rd 0, ops[r.i]? = some r.o := fun r hr => by have := (r1 r hr).2.1; simpa using this
  refine ⟨hrow, fun i o ho => ?_, rowsOf_uniq rd _ _ _, fun r hr a hb => ?_, fun r hr e he hbe => ?_, fun r hr => (r1 r hr).2.2.2, fun a => ?_, fun r hr t ht k hk hkb hkd => ?_, fun r hr hrb t ht k hk hkt => ?_⟩
  · obtain ⟨r, g1, g2, _⟩ := r2 i o (by simpa using ho)
    exact ⟨r, g1, g2⟩
  · obtain ⟨m, e1, _, e3⟩ := a3 r.i r.o (r1 r hr).2.1
    rw [(r1 r hr).2.2.1] at e1
    cases e1
    obtain ⟨e, h1, h2, h3⟩ := e3 a hb
    refine ⟨e, h1, h2, h3.imp id fun ⟨m', q1, q2⟩ => ?_⟩
    have hlt : e.on < ops.toList.length := by rw [← a1]; exact (List.getElem?_eq_some_iff.1 q1).1
    obtain ⟨k, k1, k2, _⟩ := r2 e.on _ (List.getElem?_eq_getElem hlt)
    refine ⟨k, k1, k2, ?_⟩
    have := (r1 k k1).2.2.1
    rw [k2, q1] at this
    cases this
    exact q2
  · obtain ⟨m, _, e2, _⟩ := a3 r.i r.o (r1 r hr).2.1
    exact e2 e he hbe
  · unfold bigMask
    rw [bigMask_ok]
    simp
  · have := List.all_eq_true.1 (List.all_eq_true.1 (List.all_eq_true.1 hl r hr) t ht) k hk
    rw [hkb, hkd] at this
    simpa [Nat.beq_eq_true_eq] using this
  · have := List.all_eq_true.1 hd r hr
    rw [hrb, ht] at this
    have := List.all_eq_true.1 this k hk
    rw [hkt] at this
    simpa using this
end Go.Ev
