/-
  Shapes of which the texts are the same are the same (plain).
-/
import Derived.Test.YthlebppdhipanaaShZx
import Derived.Sort.KeysCollected
import Derived.Test.YthlebppdhipanaaShVx
set_option linter.all false
namespace Go.Proofs.Ythlebppdhipanaa
open Go.Ev
open Go.Aw (tiOf fieldsOf sB)

/-- What stands behind the first one. -/
def tailJ (c e : UInt8) : List (List UInt8) → List UInt8 → List UInt8
  | [], u => e :: u
  | x :: r, u => c :: (x ++ tailJ c e r u)
theorem join_tail (c e : UInt8) : ∀ (x : List UInt8) (r : List (List UInt8)) (u : List UInt8), Lib.join (x :: r) [c] ++ e :: u = x ++ tailJ c e r u
  | x, [], u => by simp [Lib.join, List.intercalate, List.intersperse, tailJ]
  | x, y :: r, u => by
    have ih := join_tail c e y r u
    have e1 : Lib.join (x :: y :: r) [c] = x ++ c :: Lib.join (y :: r) [c] := by simp [Lib.join, List.intercalate, List.intersperse]
    rw [e1, List.append_assoc, List.cons_append, ih]
    rfl

section
variable {α : Type} (f : α → List UInt8) (ok : α → Prop) (c e : UInt8) (hce : c ≠ e)
include hce
theorem tail_pre : ∀ (l l' : List α), (∀ x ∈ l, ok x ∧ ∀ x', ok x' → ∀ u v, f x ++ u = f x' ++ v → x = x' ∧ u = v) → (∀ x ∈ l', ok x) → ∀ u v, tailJ c e (l.map f) u = tailJ c e (l'.map f) v → l = l' ∧ u = v
  | [], [], _, _, u, v, h => by simpa [tailJ] using h
  | [], y :: r', _, _, u, v, h => by simp only [List.map_nil, List.map_cons, tailJ, List.cons.injEq] at h; exact absurd h.1.symm hce
  | x :: r, [], _, _, u, v, h => by simp only [List.map_nil, List.map_cons, tailJ, List.cons.injEq] at h; exact absurd h.1 hce
  | x :: r, y :: r', h1, h2, u, v, h => by
    simp only [List.map_cons, tailJ, List.cons.injEq, true_and] at h
    obtain ⟨rfl, h3⟩ := (h1 x (by simp)).2 y (h2 y (by simp)) _ _ h
    obtain ⟨rfl, h4⟩ := tail_pre r r' (fun z hz => h1 z (by simp [hz])) (fun z hz => h2 z (by simp [hz])) u v h3
    exact ⟨rfl, h4⟩
theorem join_pre (hf : ∀ x, ok x → ∀ t u, f x ++ t ≠ e :: u) (l l' : List α) (h1 : ∀ x ∈ l, ok x ∧ ∀ x', ok x' → ∀ u v, f x ++ u = f x' ++ v → x = x' ∧ u = v) (h2 : ∀ x ∈ l', ok x) (u v : List UInt8) (h : Lib.join (l.map f) [c] ++ e :: u = Lib.join (l'.map f) [c] ++ e :: v) : l = l' ∧ u = v := by
  have hnil : Lib.join ([] : List (List UInt8)) [c] = [] := by simp [Lib.join, List.intercalate]
  cases l with
  | nil =>
    cases l' with
    | nil => simpa [hnil] using h
    | cons y r' =>
      rw [List.map_nil, hnil, List.map_cons, join_tail, List.nil_append] at h
      exact absurd h.symm (hf y (h2 y (by simp)) _ _)
  | cons x r =>
    cases l' with
    | nil =>
      rw [List.map_nil, hnil, List.map_cons, join_tail, List.nil_append] at h
      exact absurd h (hf x (h1 x (by simp)).1 _ _)
    | cons y r' =>
      rw [List.map_cons, List.map_cons, join_tail, join_tail] at h
      obtain ⟨rfl, h3⟩ := (h1 x (by simp)).2 y (h2 y (by simp)) _ _ h
      obtain ⟨rfl, h4⟩ := tail_pre f ok c e hce r r' (fun z hz => h1 z (by simp [hz])) (fun z hz => h2 z (by simp [hz])) u v h3
      exact ⟨rfl, h4⟩
end

/-- The first byte. -/
def fb (k : Int) : UInt8 := if k = 1 then 100 else if k = 2 then 105 else if k = 3 then 98 else if k = 4 then 116 else if k = 5 then 110 else if k = 8 then 91 else if k = 6 then 123 else 40
theorem text_first (a : Sh) : ∃ t, textL a = fb a.kind :: t := by
  obtain ⟨k, ns, l⟩ := a
  show ∃ t, textL (.mk k ns l) = fb k :: t
  simp only [textL, fb]
  by_cases h1 : k = 1
  · rw [if_pos h1, if_pos h1]; exact ⟨_, rfl⟩
  rw [if_neg h1, if_neg h1]
  by_cases h2 : k = 2
  · rw [if_pos h2, if_pos h2]; exact ⟨_, rfl⟩
  rw [if_neg h2, if_neg h2]
  by_cases h3 : k = 3
  · rw [if_pos h3, if_pos h3]; exact ⟨_, rfl⟩
  rw [if_neg h3, if_neg h3]
  by_cases h4 : k = 4
  · rw [if_pos h4, if_pos h4]; exact ⟨_, rfl⟩
  rw [if_neg h4, if_neg h4]
  by_cases h5 : k = 5
  · rw [if_pos h5, if_pos h5]; exact ⟨_, rfl⟩
  rw [if_neg h5, if_neg h5]
  by_cases h8 : k = 8
  · rw [if_pos h8, if_pos h8]; exact ⟨_, rfl⟩
  rw [if_neg h8, if_neg h8]
  by_cases h6 : k = 6
  · rw [if_pos h6, if_pos h6]; exact ⟨_, rfl⟩
  rw [if_neg h6, if_neg h6]; exact ⟨_, rfl⟩
theorem fb_inj {k k' : Int} (h : 1 ≤ k ∧ k ≤ 8) (h' : 1 ≤ k' ∧ k' ≤ 8) (e : fb k = fb k') : k = k' := by
  have hk : k = 1 ∨ k = 2 ∨ k = 3 ∨ k = 4 ∨ k = 5 ∨ k = 6 ∨ k = 7 ∨ k = 8 := by omega
  have hk' : k' = 1 ∨ k' = 2 ∨ k' = 3 ∨ k' = 4 ∨ k' = 5 ∨ k' = 6 ∨ k' = 7 ∨ k' = 8 := by omega
  rcases hk with rfl | rfl | rfl | rfl | rfl | rfl | rfl | rfl <;> rcases hk' with rfl | rfl | rfl | rfl | rfl | rfl | rfl | rfl <;> first | rfl | (exfalso; revert e; decide)
theorem fb_not (k : Int) (b : UInt8) (hb : b = 124 ∨ b = 93 ∨ b = 44 ∨ b = 41 ∨ b = 125) : fb k ≠ b := by
  unfold fb
  rcases hb with rfl | rfl | rfl | rfl | rfl <;> (repeat' split) <;> decide
theorem text_not (a : Sh) (b : UInt8) (hb : b = 124 ∨ b = 93 ∨ b = 44 ∨ b = 41 ∨ b = 125) (t u : List UInt8) : textL a ++ t ≠ b :: u := fun h => by
  obtain ⟨t', e⟩ := text_first a
  rw [e, List.cons_append, List.cons.injEq] at h
  exact fb_not _ b hb h.1

/-- Up to a byte that is in neither. -/
theorem upto_byte (c : UInt8) : ∀ (x y u v : List UInt8), (∀ b ∈ x, b ≠ c) → (∀ b ∈ y, b ≠ c) → x ++ c :: u = y ++ c :: v → x = y ∧ u = v
  | [], [], u, v, _, _, h => by simpa using h
  | [], b :: y, u, v, _, h2, h => by simp at h; exact absurd h.1.symm (h2 b (by simp))
  | b :: x, [], u, v, h1, _, h => by simp at h; exact absurd h.1 (h1 b (by simp))
  | a :: x, b :: y, u, v, h1, h2, h => by
    simp only [List.cons_append, List.cons.injEq] at h
    obtain ⟨rfl, h⟩ := h
    obtain ⟨h3, h4⟩ := upto_byte c x y u v (fun z hz => h1 z (by simp [hz])) (fun z hz => h2 z (by simp [hz])) h
    exact ⟨by rw [h3], h4⟩

theorem name_bytes {n : ByteArray} (h : nameB n = true) : ∀ b ∈ sB n, b ≠ 58 := fun b hb e => by
  subst e
  simp only [nameB, Bool.and_eq_true, List.all_eq_true] at h
  have := h.2.2 58 hb
  revert this
  decide
theorem name_not {n : ByteArray} (h : nameB n = true) (t u : List UInt8) : sB n ++ 58 :: t ≠ 125 :: u := fun e => by
  simp only [nameB, Bool.and_eq_true, List.all_eq_true] at h
  cases hn : sB n with
  | nil => rw [hn] at e; simp at e
  | cons b r =>
    rw [hn] at e
    simp only [List.cons_append, List.cons.injEq] at e
    obtain ⟨rfl, _⟩ := e
    have := h.2.2 125 (by rw [hn]; simp)
    revert this
    decide

theorem sB_inj {a b : ByteArray} (h : sB a = sB b) : a = b := ByteArray.ext (Array.ext' h)
theorem text_pre : ∀ (N : Nat) (a b : Sh), sz a ≤ N → rightS a = true → rightS b = true → ∀ u v, textL a ++ u = textL b ++ v → a = b ∧ u = v
  | 0, a, _, h, _, _ => by have := sz_pos a; omega
  | N + 1, a, b, hs, ha, hb => by
    intro u v h
    have ih : ∀ x ∈ a.kids, ∀ y, rightS y = true → ∀ u v, textL x ++ u = textL y ++ v → x = y ∧ u = v := fun x hx y hy => text_pre N x y (by have := sz_kid hx; omega) (right_kids ha x hx) hy
    have hk : a.kind = b.kind := by
      obtain ⟨t, e⟩ := text_first a
      obtain ⟨t', e'⟩ := text_first b
      rw [e, e', List.cons_append, List.cons_append, List.cons.injEq] at h
      exact fb_inj (right_kind ha) (right_kind hb) h.1
    have ka := right_kind ha
    have na := right_names ha
    have nb := right_names hb
    have la := right_low ha
    have lb := right_low hb
    have ra := right_rec ha
    have rb := right_rec hb
    have fa := right_fun ha
    have fb := right_fun hb
    have ga := right_kids ha
    have gb := right_kids hb
    obtain ⟨k, ns, l⟩ := a
    obtain ⟨k', ns', l'⟩ := b
    simp only [Sh.kind, Sh.kids, Sh.names] at *
    subst hk
    by_cases h5 : k ≤ 5
    · have e1 := la h5
      have e2 := lb h5
      have e3 := na (by omega)
      have e4 := nb (by omega)
      subst e1 e2 e3 e4
      exact ⟨rfl, List.append_cancel_left h⟩
    have n1 : ¬ k = 1 := by omega
    have n2 : ¬ k = 2 := by omega
    have n3 : ¬ k = 3 := by omega
    have n4 : ¬ k = 4 := by omega
    have n5 : ¬ k = 5 := by omega
    simp only [textL, if_neg n1, if_neg n2, if_neg n3, if_neg n4, if_neg n5, textsL_map] at h
    by_cases h8 : k = 8
    · simp only [if_pos h8, List.cons_append, List.append_assoc, List.cons.injEq, true_and, List.nil_append] at h
      obtain ⟨rfl, rfl⟩ := join_pre textL (fun x => rightS x = true) 124 93 (by decide) (fun x _ t u => text_not x 93 (by simp) t u) l l' (fun x hx => ⟨ga x hx, ih x hx⟩) gb u v h
      have e3 := na (by omega)
      have e4 := nb (by omega)
      subst e3 e4
      exact ⟨rfl, rfl⟩
    simp only [if_neg h8] at h
    by_cases h6 : k = 6
    · obtain ⟨p1, p2, _⟩ := ra h6
      obtain ⟨q1, q2, _⟩ := rb h6
      rw [List.all_eq_true] at p2 q2
      simp only [if_pos h6, List.cons_append, List.append_assoc, List.cons.injEq, true_and, List.nil_append] at h
      have zip : ∀ (ns : List ByteArray) (l : List Sh), List.zipWith (fun n t => sB n ++ 58 :: t) ns (l.map textL) = (ns.zip l).map fun p => sB p.1 ++ 58 :: textL p.2 := by
        intro ns
        induction ns with
        | nil => intro l; simp
        | cons n r ih => intro l; cases l with
          | nil => simp
          | cons x l => simp [ih l]
      rw [zip, zip] at h
      have hz : ∀ (ns : List ByteArray) (l : List Sh) (p : ByteArray × Sh), p ∈ ns.zip l → p.1 ∈ ns ∧ p.2 ∈ l := fun ns l p hp => ⟨(List.of_mem_zip hp).1, (List.of_mem_zip hp).2⟩
      obtain ⟨e, rfl⟩ := join_pre (fun p : ByteArray × Sh => sB p.1 ++ 58 :: textL p.2) (fun p => nameB p.1 = true ∧ rightS p.2 = true) 44 125 (by decide)
        (fun p hp t u e => by rw [List.append_assoc, List.cons_append] at e; exact name_not hp.1 _ _ e) (ns.zip l) (ns'.zip l')
        (fun p hp => ⟨⟨p2 _ (hz _ _ p hp).1, ga _ (hz _ _ p hp).2⟩, fun p' hp' u v e => by
          rw [List.append_assoc, List.cons_append, List.append_assoc, List.cons_append] at e
          obtain ⟨e1, e2⟩ := upto_byte 58 _ _ _ _ (name_bytes (p2 _ (hz _ _ p hp).1)) (name_bytes hp'.1) e
          obtain ⟨e3, e4⟩ := ih _ (hz _ _ p hp).2 _ hp'.2 _ _ e2
          exact ⟨Prod.ext (sB_inj e1) e3, e4⟩⟩)
        (fun p hp => ⟨q2 _ (hz _ _ p hp).1, gb _ (hz _ _ p hp).2⟩) u v h
      have e1 : ns = ns' := by
        have := congrArg (List.map (·.1)) e
        rw [List.map_fst_zip (by omega), List.map_fst_zip (by omega)] at this
        exact this
      have e2 : l = l' := by
        have := congrArg (List.map (·.2)) e
        rw [List.map_snd_zip (by omega), List.map_snd_zip (by omega)] at this
        exact this
      subst e1 e2
      exact ⟨rfl, rfl⟩
    have h7 : k = 7 := by omega
    simp only [if_neg h6, List.cons_append, List.append_assoc, List.cons.injEq, true_and, List.nil_append] at h
    have fa := fa h7
    have fb := fb h7
    obtain ⟨xs, x, rfl⟩ : ∃ xs x, l = xs ++ [x] := ⟨l.dropLast, l.getLast (by intro q; subst q; simp at fa), (List.dropLast_concat_getLast _).symm⟩
    obtain ⟨ys, y, rfl⟩ : ∃ xs x, l' = xs ++ [x] := ⟨l'.dropLast, l'.getLast (by intro q; subst q; simp at fb), (List.dropLast_concat_getLast _).symm⟩
    simp only [List.map_append, List.map_cons, List.map_nil, List.dropLast_concat, List.getLastD_concat] at h
    obtain ⟨rfl, h9⟩ := join_pre textL (fun x => rightS x = true) 44 41 (by decide) (fun x _ t u => text_not x 41 (by simp) t u) xs ys (fun x hx => ⟨ga x (by simp [hx]), ih x (by simp [hx])⟩) (fun x hx => gb x (by simp [hx])) _ _ h
    simp only [List.cons.injEq, true_and] at h9
    obtain ⟨rfl, rfl⟩ := ih x (by simp) y (gb y (by simp)) u v h9
    have e3 := na (by omega)
    have e4 := nb (by omega)
    subst e3 e4
    exact ⟨rfl, rfl⟩

/-- **Right shapes of which the texts are the same are the same.** -/
theorem text_inj {a b : Sh} (ha : rightS a = true) (hb : rightS b = true) (h : txt a = txt b) : a = b := by
  have h2 : textL a = textL b := by
    have := congrArg (fun x : ByteArray => x.data.toList) h
    simpa [txt] using this
  exact (text_pre (sz a) a b (Nat.le_refl _) ha hb [] [] (by rw [h2])).1
end Go.Proofs.Ythlebppdhipanaa

/-
  One of some: what is so of it (plain).
-/
namespace Go.Proofs.Ythlebppdhipanaa
open Go.Ev
open Go.Aw (tiOf fieldsOf sB)

/-! ### Texts in order -/
theorem ltB_iff (a b : ByteArray) : ltB a b = true ↔ sB a < sB b := by rw [ltB, bytesLess_eq, decide_eq_true_eq]
theorem rising_pair : ∀ {l : List ByteArray}, risingB l = true → l.Pairwise fun a b => sB a < sB b
  | [], _ => List.Pairwise.nil
  | [a], _ => by simp
  | a :: b :: r, h => by
    simp only [risingB, Bool.and_eq_true] at h
    have ih := rising_pair h.2
    refine List.pairwise_cons.2 ⟨fun c hc => ?_, ih⟩
    have hab := (ltB_iff a b).1 h.1
    rcases List.mem_cons.1 hc with rfl | hc
    · exact hab
    · exact List.lt_trans hab ((List.pairwise_cons.1 ih).1 c hc)
theorem pair_rising {l : List ByteArray} (h : l.Pairwise fun a b => sB a < sB b) : risingB l = true :=
  rising_yes fun j hj => (ltB_iff _ _).2 (List.pairwise_iff_getElem.1 h j (j + 1) (by omega) hj (by omega))
theorem sortS_pair (xs : List ByteArray) : (sortS xs).Pairwise fun a b => sB a ≤ sB b := by
  have tr : ∀ a b c : List UInt8, leB a b = true → leB b c = true → leB a c = true := fun a b c h1 h2 => by simp only [leB, decide_eq_true_eq] at *; exact List.le_trans h1 h2
  have to : ∀ a b : List UInt8, (leB a b || leB b a) = true := fun a b => by simp only [leB, Bool.or_eq_true, decide_eq_true_eq]; exact List.le_total a b
  have h := List.pairwise_mergeSort tr to (xs.map (·.data.toList))
  unfold sortS
  rw [List.pairwise_map]
  exact h.imp fun {a b} h => by simpa [leB, sB] using h
theorem sortS_rising {xs : List ByteArray} (hn : xs.Nodup) : risingB (sortS xs) = true := by
  refine pair_rising ?_
  have h1 := sortS_pair xs
  have h2 : (sortS xs).Nodup := (sortS_perm xs).nodup_iff.2 hn
  refine (h1.and h2).imp fun {a b} h => ?_
  rcases List.le_iff_lt_or_eq.1 h.1 with h3 | h3
  · exact h3
  · exact absurd (sB_inj h3) h.2

/-! ### What stands in the map -/
def Ent (kn : List (ByteArray × Sh)) : Prop := ∀ p ∈ kn, p.1 = txt p.2 ∧ rightS p.2 = true
theorem putK_ent {s : Sh} {kn : List (ByteArray × Sh)} (hs : rightS s = true) (h : Ent kn) : Ent (putK (txt s) s kn) := by
  unfold putK
  intro p hp
  split at hp
  · rcases List.mem_or_eq_of_mem_set hp with hp | rfl
    · exact h p hp
    · exact ⟨rfl, hs⟩
  · rcases List.mem_append.1 hp with hp | hp
    · exact h p hp
    · simp at hp; subst hp; exact ⟨rfl, hs⟩
theorem putK_mem {s : Sh} {kn : List (ByteArray × Sh)} (hs : rightS s = true) (h : Ent kn) (x : Sh) : x ∈ (putK (txt s) s kn).map (·.2) ↔ x ∈ kn.map (·.2) ∨ x = s := by
  unfold putK
  split
  · rename_i j y hf
    obtain ⟨_, h2⟩ := fndM_some hf
    rw [Nat.sub_zero] at h2
    obtain ⟨hj, he⟩ := List.getElem?_eq_some_iff.1 h2
    have hy := h _ (List.getElem_mem hj)
    rw [he] at hy
    have : y = s := text_inj hy.2 hs hy.1.symm
    subst this
    have e : (kn.set j (txt y, y)) = kn := by
      rw [← he]
      exact List.set_getElem_self hj
    rw [e]
    constructor
    · exact .inl
    · rintro (h3 | rfl)
      · exact h3
      · exact List.mem_map.2 ⟨_, List.mem_of_getElem? h2, rfl⟩
  · rw [List.map_append, List.mem_append]
    simp
theorem putAll_ent : ∀ (l : List Sh) (kn : List (ByteArray × Sh)), (∀ s ∈ l, rightS s = true) → Ent kn → Ent (putAll kn l) ∧ ∀ x, x ∈ (putAll kn l).map (·.2) ↔ x ∈ kn.map (·.2) ∨ x ∈ l
  | [], kn, _, h => ⟨h, fun x => by simp [putAll]⟩
  | s :: r, kn, hr, h => by
    have hs := hr s (by simp)
    obtain ⟨g1, g2⟩ := putAll_ent r (putK (txt s) s kn) (fun x hx => hr x (by simp [hx])) (putK_ent hs h)
    refine ⟨g1, fun x => ?_⟩
    rw [putAll, g2 x, putK_mem hs h x, List.mem_cons]
    constructor
    · rintro ((h | h) | h)
      · exact .inl h
      · exact .inr (.inl h)
      · exact .inr (.inr h)
    · rintro (h | h | h)
      · exact .inl (.inl h)
      · exact .inl (.inr h)
      · exact .inr h

section
variable {fl : List Sh} (hr : ∀ s ∈ fl, rightS s = true)
include hr
theorem out_mem (x : Sh) : x ∈ outS fl ↔ x ∈ fl := by
  have h1 := outK_perm (putAll_keys fl [] List.nodup_nil)
  obtain ⟨_, h2⟩ := putAll_ent fl [] hr (fun p hp => by simp at hp)
  unfold outS
  rw [h1.mem_iff, h2 x]
  simp
theorem out_rising : risingB ((outS fl).map txt) = true := by
  obtain ⟨h1, _⟩ := putAll_ent fl [] hr (fun p hp => by simp at hp)
  have hk := putAll_keys fl [] List.nodup_nil
  have e : (outS fl).map txt = sortS ((putAll [] fl).map (·.1)) := by
    unfold outS outK
    rw [List.map_map]
    conv => rhs; rw [← List.map_id (sortS ((putAll [] fl).map (·.1)))]
    refine List.map_congr_left fun k hk' => ?_
    have hm := (sortS_perm _).mem_iff.1 hk'
    rw [List.mem_map] at hm
    obtain ⟨p, hp, rfl⟩ := hm
    show txt (getK p.1 _) = p.1
    rw [getK_mem hk (by exact hp)]
    exact (h1 p hp).1.symm
  rw [e]
  exact sortS_rising hk
theorem out_ne (hne : fl ≠ []) : outS fl ≠ [] := fun h => by
  cases fl with
  | nil => exact hne rfl
  | cons x r =>
    have := (out_mem hr x).2 (by simp)
    rw [h] at this
    simp at this
end

/-! ### One of some is good -/
theorem dyn_eq {s : Sh} (h : rightS s = true) (h1 : s.kind = 1) : s = .mk 1 [] [] := by
  have e1 := right_low h (by omega)
  have e2 := right_names h (by omega)
  obtain ⟨k, ns, l⟩ := s
  simp only [Sh.kind, Sh.kids, Sh.names] at *
  subst h1 e1 e2
  rfl
theorem one_eq {out : List Sh} (h : out ≠ []) : (∃ x, out = [x] ∧ oneS out = x) ∨ (1 < out.length ∧ oneS out = capS (.mk 8 [] out)) := by
  match out, h with
  | [x], _ => exact .inl ⟨x, rfl, rfl⟩
  | _ :: _ :: _, _ => exact .inr ⟨by simp, rfl⟩

theorem right_mk8 {out : List Sh} (h1 : 1 < out.length) (hr : ∀ x ∈ out, rightS x = true) (hp : ∀ x ∈ out, partedK x = false) (ho : risingB (out.map txt) = true) : rightS (.mk 8 [] out) = true := by
  simp only [rightS]
  rw [rightSs_all hr]
  have : out.any partedK = false := by
    rw [List.any_eq_false]
    intro x hx
    rw [hp x hx]
    simp
  simp [this, ho, h1]

/-- Of good shapes that are few: anything, if one of them is; else one of those that are in them. -/
theorem or_cases {l : List Sh} (hne : l ≠ []) (hg : ∀ s ∈ l, goodS s = true) (hz : szs l + 1 ≤ 512) :
    ((∃ s ∈ l, s.kind = 1) ∧ orS l = .mk 1 [] []) ∨ ((∀ s ∈ l, s.kind ≠ 1) ∧ ∃ out : List Sh, (∀ x, x ∈ out ↔ x ∈ flatS l) ∧ out ≠ [] ∧ rightS (orS l) = true ∧ goodS (orS l) = true ∧ (orS l).kind ≠ 1 ∧ (∀ x ∈ out, rightS x = true ∧ x.kind ≠ 1 ∧ x.kind ≠ 8) ∧ ((∃ x, out = [x] ∧ orS l = x) ∨ orS l = .mk 8 [] out)) := by
  have hle : l.isEmpty = false := by simpa using hne
  have hall : l.all goodS = true := by simpa using hg
  have e : orS l = oneS (outS (flS l)) := by rw [orS, hall, hle]; rfl
  have hr : ∀ s ∈ l, rightS s = true := fun s hs => good_right (hg s hs)
  cases hd : l.find? fun s => decide (s.kind = 1) with
  | some s =>
    have hm := List.mem_of_find?_eq_some hd
    have hk : s.kind = 1 := by simpa using List.find?_some hd
    refine .inl ⟨⟨s, hm, hk⟩, ?_⟩
    have hs := dyn_eq (hr s hm) hk
    have e2 : flS l = [s] := by rw [flS, hd]
    rw [e, e2]
    have hp := outK_perm (putAll_keys [s] [] List.nodup_nil)
    have e3 : (putAll [] [s]).map (·.2) = [s] := rfl
    rw [e3] at hp
    have : outS [s] = [s] := List.perm_singleton.1 hp
    rw [this, hs]
    rfl
  | none =>
    have hnd : ∀ s ∈ l, s.kind ≠ 1 := fun s hs => by
      rw [List.find?_eq_none] at hd
      simpa using hd s hs
    have e2 : flS l = flatS l := by rw [flS, hd]
    rw [e2] at e
    have hfr : ∀ x ∈ flatS l, rightS x = true ∧ x.kind ≠ 1 ∧ x.kind ≠ 8 := fun x hx => by
      obtain ⟨s, hs, h⟩ := flat_mem hx
      rcases h with ⟨h8, hk⟩ | ⟨h8, rfl⟩
      · have := (right_or (hr s hs) h8).2.1
        rw [List.any_eq_false] at this
        have := this x hk
        simp only [partedK, Bool.or_eq_true, decide_eq_true_eq, not_or] at this
        exact ⟨right_kids (hr s hs) x hk, this.2, this.1⟩
      · exact ⟨hr _ hs, hnd _ hs, h8⟩
    have hfr1 : ∀ x ∈ flatS l, rightS x = true := fun x hx => (hfr x hx).1
    have hmem := out_mem hfr1
    have hfne : flatS l ≠ [] := by
      cases l with
      | nil => exact absurd rfl hne
      | cons x r =>
        intro h
        simp only [flatS, List.flatMap_cons, List.append_eq_nil_iff] at h
        have h1 := h.1
        unfold flat1 at h1
        split at h1
        · rename_i h8
          have := (right_or (hr x (by simp)) h8).1
          rw [h1] at this
          simp at this
        · cases h1
    have hone := out_ne hfr1 hfne
    have hoz := out_szs (flatS l)
    have hfz := szs_flat l
    have hor : ∀ x ∈ outS (flatS l), rightS x = true ∧ x.kind ≠ 1 ∧ x.kind ≠ 8 := fun x hx => hfr x ((hmem x).1 hx)
    refine .inr ⟨hnd, outS (flatS l), hmem, hone, ?_⟩
    rcases one_eq hone with ⟨x, h1, h2⟩ | ⟨h1, h2⟩
    · have hx := hor x (by rw [h1]; simp)
      rw [h2] at e
      rw [e]
      have hsx : sz x ≤ 512 := by
        have : sz x ≤ szs (outS (flatS l)) := szs_mem (by rw [h1]; simp)
        omega
      exact ⟨hx.1, by simp [goodS, hx.1, hsx], hx.2.1, hor, .inl ⟨x, h1, rfl⟩⟩
    · have hs8 : sz (.mk 8 [] (outS (flatS l))) ≤ 512 := by rw [sz_or]; omega
      have hcap : capS (.mk 8 [] (outS (flatS l))) = .mk 8 [] (outS (flatS l)) := by
        unfold capS fewS
        rw [if_pos (by simpa using hs8)]
      rw [h2, hcap] at e
      rw [e]
      have hR := right_mk8 h1 (fun x hx => (hor x hx).1) (fun x hx => by
        obtain ⟨_, g1, g2⟩ := hor x hx
        simp [partedK, g1, g2]) (out_rising hfr1)
      exact ⟨hR, by simp [goodS, hR, hs8], by simp [Sh.kind], hor, .inr rfl⟩

/-! ### Each shape fits itself -/
end Go.Proofs.Ythlebppdhipanaa

/-
  The law on one of some, and what fits itself: small functions.
-/
namespace Go.Proofs.Ythlebppdhipanaa
open Go.Ev
open Go.Aw (tiOf fieldsOf sB)

/-! ### Are shapes not more than are looked at? -/
def allL (l : List Sh) : Bool := l.all lightS && (decide (szs l ≤ 1400) && decide (l.length ≤ 60))
noncomputable def prT (q : Sh → Int → Prop) : List D → Option (Prop × D) := shIT q (fun n i => .lit (.int .i64 (partsR n i)))
theorem prT_eq (q : Sh → Int → Prop) (n : Sh) (i : Int) : prT q [.agg (rowS n), .lit (.int .i64 i)] = some (q n i, .lit (.int .i64 (partsR n i))) := shIT_eq _ _ n i
theorem prT_ok {q : Sh → Int → Prop} (h : ∀ n i, q n i → -100000 ≤ i ∧ i ≤ 100000) : ∀ xs p d, prT q xs = some (p, d) → p → FnO Try.prog 37 xs (.ret d) ∧ D.belL 0 xs = true ∧ D.bel 0 d = true :=
  shIT_ok (fun n i hq => partsR_ok n i (h n i hq).1 (h n i hq).2) (by simp)
theorem szs_le_take (l : List Sh) (i : Nat) : szs (l.take i) ≤ szs l := by
  have := szs_app (l.take i) (l.drop i)
  rw [List.take_append_drop] at this
  omega

set_option maxHeartbeats 4000000 in
set_option maxRecDepth 20000 in
theorem all_ok (l : List Sh) (hl : l.length ≤ 100000000000000) : FnO Try.prog 20 [.sq false 3 (rowsS l)] (.ret (.lit (.bool (allL l)))) := by
  have ht := tbC_ok (shT_ok (q := fun _ => True) (fun n _ => light_ok n) (tbool_bel _)) (tbC_ok (prT_ok (q := fun _ i => i = 700) (fun n i h => by omega)) (tb0_ok Try.prog))
  refine fnO_wx ht fol Try.func20 rfl (by kernel_rfl) (by simp [Try.ntmps20]) (by kernel_rfl) fun I => ?_
  simp -implicitDefEqProofs [Try.ntmps20]
  refine w_loop (fun i : { i : Nat // i ≤ l.length ∧ (∀ j (h : j < l.length), j < i → lightS l[j] = true) ∧ szs (l.take i) ≤ 1400 } => S.mk 25 [(0, .sq false 3 (rowsS l)), (2, .lit (.bool false)), (3, .lit (.int .i64 (szs (l.take i.1)))), (6, .sq false 3 (rowsS l)), (7, .lit (.int .i64 l.length)), (8, .lit (.int .i64 i.1))] [] 0 [] none []) (fun i => l.length - i.1) ⟨0, Nat.zero_le _, fun j _ h => by omega, by simp [szs_nil]⟩ (le_of [] (by simp [szs_nil])) fun ⟨i, hi, hall, hz⟩ => wx_ok ht fol _ _ _ (by kernel_rfl) ?_
  have hw : IntKind.i64.wrap ((i : Int) + 1) = (i : Int) + 1 := wrap64 (by omega) (by omega)
  by_cases hil : i < l.length
  · have hm : l[i] ∈ l := List.getElem_mem hil
    cases hL : lightS l[i] with
    | false =>
      simp -implicitDefEqProofs [hil, shT_eq, tbool, hL]
      refine seals_bool ?_
      have : l.all lightS = false := by
        rw [List.all_eq_false]
        exact ⟨_, hm, by simp [hL]⟩
      simp [allL, this]
    | true =>
      have hlz := light_sz hL
      have hp : partsR l[i] 700 = (sz l[i] : Int) := by unfold partsR; omega
      have ht1 := szs_take hil
      have hw2 : IntKind.i64.wrap ((szs (l.take i) : Int) + (sz l[i] : Int)) = (szs (l.take i) : Int) + (sz l[i] : Int) := wrap64 (by omega) (by omega)
      by_cases h14 : szs (l.take i) + sz l[i] ≤ 1400
      · have h14b : ¬ ((1400 : Int) < (szs (l.take i) : Int) + (sz l[i] : Int)) := by omega
        simp -implicitDefEqProofs [hil, shT_eq, tbool, hL, prT_eq, hp, hw, hw2, h14b]
        exact ⟨i + 1, le_of [] (by simp [ht1]), ⟨by omega, fun j hj hlt => by
          by_cases h9 : j = i
          · subst h9; exact hL
          · exact hall j hj (by omega), by omega⟩, by omega⟩
      · have h14b : (1400 : Int) < (szs (l.take i) : Int) + (sz l[i] : Int) := by omega
        simp -implicitDefEqProofs [hil, shT_eq, tbool, hL, prT_eq, hp, hw, hw2, h14b]
        refine seals_bool ?_
        have := szs_le_take l (i + 1)
        have h15 : ¬ szs l ≤ 1400 := by omega
        simp [allL, h15]
  · have : i = l.length := by omega
    subst this
    simp -implicitDefEqProofs
    refine seals_bool ?_
    have h1 : l.all lightS = true := by
      rw [List.all_eq_true]
      intro x hx
      obtain ⟨j, hj, rfl⟩ := List.mem_iff_getElem.1 hx
      exact hall j hj hj
    rw [List.take_length] at hz
    simp [allL, h1, hz]
    omega

/-! ### How many parts -/
def sizeS (s : Sh) : Nat := if goodS s then sz s else 0
set_option maxRecDepth 10000 in
theorem size_ok (s : Sh) (h : limP s) : FnO Try.prog 21 [.agg (rowS s)] (.ret (.lit (.int .i64 (sizeS s)))) := by
  have ht := tbC_ok (shT_ok rgood_ok (tbool_bel _)) (tbC_ok (prT_ok (q := fun _ i => i = 512) (fun n i h => by omega)) (tb0_ok Try.prog))
  refine fnO_wx ht fol Try.func21 rfl (by kernel_rfl) (by simp [Try.ntmps21]) (by kernel_rfl) fun I => ?_
  cases hG : goodS s with
  | false =>
    simp -implicitDefEqProofs [Try.ntmps21, shT_eq, tbool, hG, h]
    exact seals_int (by simp [sizeS, hG])
  | true =>
    have h5 : sz s ≤ 512 := by simp only [goodS, Bool.and_eq_true, decide_eq_true_eq] at hG; exact hG.1
    have hp : partsR s 512 = (sz s : Int) := by unfold partsR; omega
    simp -implicitDefEqProofs [Try.ntmps21, shT_eq, tbool, hG, h, prT_eq, hp]
    exact seals_int (by simp [sizeS, hG])

/-! ### A shape without parts -/
end Go.Proofs.Ythlebppdhipanaa

/-
  The law on one of some, and what fits itself: what is so (plain).
-/
namespace Go.Proofs.Ythlebppdhipanaa
open Go.Ev
open Go.Aw (tiOf fieldsOf sB)

theorem limSs_all : ∀ {l : List Sh}, (∀ x ∈ l, limS x = true) → limSs l = true
  | [], _ => rfl
  | n :: r, h => by simp only [limSs, Bool.and_eq_true]; exact ⟨h n (by simp), limSs_all fun x hx => h x (by simp [hx])⟩
theorem limP_dyn : limP (.mk 1 [] []) := ⟨by simp [limS, limSs], by show 1 ≤ 1000000; omega⟩

section
variable {l : List Sh} (hne : l ≠ []) (hg : ∀ s ∈ l, goodS s = true) (hP : ∀ s ∈ l, limP s) (hz : szs l + 1 ≤ 512)
include hne hg hz

theorem or_good : goodS (orS l) = true := by
  rcases or_cases hne hg hz with ⟨_, h⟩ | ⟨_, out, _, _, _, h, _⟩
  · rw [h]; rfl
  · exact h

include hP in
theorem or_limP : limP (orS l) := by
  have hG := or_good hne hg hz
  simp only [goodS, Bool.and_eq_true, decide_eq_true_eq] at hG
  refine ⟨?_, by omega⟩
  have hfl : ∀ x ∈ flatS l, limP x := fun x hx => by
    obtain ⟨s, hs, h⟩ := flat_mem hx
    rcases h with ⟨_, hk⟩ | ⟨_, rfl⟩
    · exact limP_kid (hP s hs) hk
    · exact hP _ hs
  rcases or_cases hne hg hz with ⟨_, h⟩ | ⟨_, out, hm, _, _, _, _, _, ho⟩
  · rw [h]; exact limP_dyn.1
  · rcases ho with ⟨x, rfl, h⟩ | h
    · rw [h]; exact (hfl x ((hm x).1 (by simp))).1
    · rw [h] at hG ⊢
      have h1 := szs_len out
      have h2 : sz (.mk 8 [] out) = szs out + 1 := sz_or _
      have h3 : out.length ≤ 1000 := by omega
      simp only [limS, Bool.and_eq_true, decide_eq_true_eq]
      exact ⟨by simp, by simp, h3, limSs_all fun x hx => (hfl x ((hm x).1 hx)).1⟩

end

end Go.Proofs.Ythlebppdhipanaa

/-
  The law on one of some, and what fits itself: the walk.
-/
namespace Go.Proofs.Ythlebppdhipanaa
open Go.Ev
open Go.Aw (tiOf fieldsOf sB)

noncomputable def alT : List D → Option (Prop × D) := ctr (fun l : List Sh => [.sq false 3 (rowsS l)]) (fun l => l.length ≤ 100000000000000) (fun l => .lit (.bool (allL l)))
theorem alT_eq (l : List Sh) : alT [.sq false 3 (rowsS l)] = some (l.length ≤ 100000000000000, .lit (.bool (allL l))) := ctr_enc (fun a b h => by simp at h; exact rowsS_inj _ _ h) l
theorem alT_ok : ∀ xs p d, alT xs = some (p, d) → p → FnO Try.prog 20 xs (.ret d) ∧ D.belL 0 xs = true ∧ D.bel 0 d = true :=
  ctr_ok fun l hl => ⟨all_ok l hl, by simp, by simp⟩
noncomputable def orT : List D → Option (Prop × D) := ctr (fun l : List Sh => [.sq false 3 (rowsS l)]) (fun l => szs l ≤ 900000 ∧ ∀ s ∈ l, limP s) (fun l => .agg (rowS (orS l)))
theorem orT_ok : ∀ xs p d, orT xs = some (p, d) → p → FnO Try.prog 22 xs (.ret d) ∧ D.belL 0 xs = true ∧ D.bel 0 d = true :=
  ctr_ok fun l hl => ⟨or_ok l hl.1 hl.2, by simp, by simp⟩
noncomputable def plT : List D → Option (Prop × D) := ctr (fun k : Int => [.lit (.int .i64 k)]) (fun _ => True) (fun k => .agg (rowS (.mk k [] [])))
noncomputable def tb6 : Tb := tbC 12 (tCo (.lit (.bool true))) (tbC 13 (sh2T (fun a b => limP a ∧ limP b ∧ sz a + sz b ≤ 2000) (fun a b => .lit (.bool (fitsG a b)))) (tbC 19 (shT limP (tbool goodS)) (tbC 20 alT (tbC 21 (shT limP (fun s => .lit (.int .i64 (sizeS s)))) (tbC 22 orT (tbC 23 plT tb0))))))
def aF (l : List Sh) (b : Sh) (i : Nat) : Bool := (l.take i).all fun s => fitsG s b
def lF6 (l : List Sh) (b : Sh) (k : Int) (i : Nat) : S := S.mk 111 [(0, .sq false 3 (rowsS l)), (2, .lit (.int .i64 k)), (4, .ps none (rowS b) 0), (6, .lit (.bool false)), (7, .lit (.int .i64 ((szs (l.take i) : Int) + 1))), (8, .lit (.bool (aF l b i))), (36, .sq false 3 (rowsS l)), (37, .lit (.int .i64 l.length)), (38, .lit (.int .i64 i))] [] 0 [] none []

theorem ti30' : tiOf Try.prog 30 = some ⟨1, 8, (.int .u64), [(.zn .u64)]⟩ := by kernel_rfl
end Go.Proofs.Ythlebppdhipanaa
