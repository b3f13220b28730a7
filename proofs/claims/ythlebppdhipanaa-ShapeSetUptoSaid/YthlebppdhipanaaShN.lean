/-
  The document's: a shape's text.
-/
import Derived.Test.YthlebppdhipanaaShM
set_option linter.all false
namespace Go.Proofs.Ythlebppdhipanaa
open Go.Ev
open Go.Aw (tiOf fieldsOf sB)
open Go.Lib (lens)

/-- The first texts, with something between them. -/
def joinP (c : UInt8) (xs : List (List UInt8)) (i : Nat) : List UInt8 := Lib.join (xs.take i) [c]
theorem join_cc (c : UInt8) (y z : List UInt8) (r : List (List UInt8)) : Lib.join (y :: z :: r) [c] = y ++ (c :: Lib.join (z :: r) [c]) := by
  simp [Lib.join, List.intercalate, List.intersperse]
theorem join_snoc (c : UInt8) : ∀ (xs : List (List UInt8)) (x : List UInt8), Lib.join (xs ++ [x]) [c] = (if xs = [] then x else Lib.join xs [c] ++ (c :: x))
  | [], x => by simp [Lib.join, List.intercalate, List.intersperse]
  | [y], x => by simp [Lib.join, List.intercalate, List.intersperse]
  | y :: z :: r, x => by
    have ih := join_snoc c (z :: r) x
    simp only [List.cons_append, reduceCtorEq, if_false] at ih ⊢
    rw [join_cc, join_cc, ih]
    simp
theorem joinP_succ (c : UInt8) (xs : List (List UInt8)) (i : Nat) (h : i < xs.length) : joinP c xs (i + 1) = if i = 0 then xs[i] else joinP c xs i ++ (c :: xs[i]) := by
  unfold joinP
  rw [List.take_succ_eq_append_getElem h, join_snoc]
  by_cases h0 : i = 0
  · subst h0; simp
  · have : xs.take i ≠ [] := by
      intro q
      have q := congrArg List.length q
      rw [List.length_take, List.length_nil] at q
      omega
    rw [if_neg this, if_neg h0]
theorem lens_app (a b : List (List UInt8)) : lens (a ++ b) = lens a + lens b := by
  induction a with
  | nil => simp [lens]
  | cons x r ih => rw [List.cons_append, lens_cons, lens_cons, ih]; omega
theorem joinP_len (c : UInt8) (xs : List (List UInt8)) (i : Nat) : (joinP c xs i).length ≤ lens xs + xs.length := by
  have h := join_len c (xs.take i)
  have h2 : lens (xs.take i) ≤ lens xs := by
    have e := lens_app (xs.take i) (xs.drop i)
    rw [List.take_append_drop] at e
    omega
  have h3 : (xs.take i).length ≤ xs.length := by simp; omega
  unfold joinP
  omega
theorem lens_mem {xs : List (List UInt8)} {x : List UInt8} (h : x ∈ xs) : x.length ≤ lens xs := by
  induction xs with
  | nil => simp at h
  | cons y r ih =>
    rw [lens_cons]
    rcases List.mem_cons.1 h with rfl | h
    · omega
    · have := ih h; omega

theorem joinP_zero (c : UInt8) (xs : List (List UInt8)) : joinP c xs 0 = [] := rfl
theorem joinP_all (c : UInt8) (xs : List (List UInt8)) (n : Nat) (h : xs.length = n) : joinP c xs n = Lib.join xs [c] := by
  rw [joinP, List.take_of_length_le (by omega)]
theorem texts_get (l : List Sh) (i : Nat) (h : i < l.length) : (textsL l)[i]'(by rw [textsL_length]; exact h) = sB (txt l[i]) := by
  simp only [textsL_map, List.getElem_map]
  rfl

set_option maxHeartbeats 1000000 in
set_option maxRecDepth 10000 in
theorem rtextOr_ok (ns : List ByteArray) (l : List Sh) (hl : l.length ≤ 1000) (hn : lens (textsL l) ≤ 100000000000000) (ht : TbOk Try.prog (tbC 78 (shT (fun n => n ∈ l) (fun n => .lit (.string (txt n)))) tb0)) : FnO Try.prog 78 [.agg (rowS (.mk 8 ns l))] (.ret (.lit (.string (txt (.mk 8 ns l))))) := by
  refine fnO_wp ht fol Try.func78 rfl (by kernel_rfl) (by simp [Try.ntmps78]) (by kernel_rfl) fun I => ?_
  simp -implicitDefEqProofs [Try.ntmps78, rowS]
  have hlen := textsL_length l
  refine w_loop (fun i : { i : Nat // i ≤ l.length } => S.mk 81 [(1, .pt 0 0), (2, .lit (.string ⟨#[]⟩)), (3, .lit (.string (bA (joinP 124 (textsL l) i.1)))), (4, .lit (.string ⟨#[124]⟩)), (5, .lit (.int .i64 l.length)), (6, .lit (.int .i64 i.1))] [(0, .cells 25 none [.lit (.int .i64 8), .sq false 1 (strsD ns), .sq false 3 (rowsS l)])] 1 [] none []) (fun i => l.length - i.1) ⟨0, Nat.zero_le _⟩ (le_of [0] (by simp [joinP_zero, bA])) fun ⟨i, hi⟩ => wp_ok ht fol _ _ _ (by kernel_rfl) ?_
  have hw : IntKind.i64.wrap ((i : Int) + 1) = (i : Int) + 1 := wrap64 (by omega) (by omega)
  have hjl := joinP_len 124 (textsL l) i
  by_cases hil : i < l.length
  · have hq : l[i] ∈ l := List.getElem_mem hil
    have hjs := joinP_succ 124 (textsL l) i (by omega)
    rw [texts_get l i hil] at hjs
    have hel : (sB (txt l[i])).length ≤ lens (textsL l) := by rw [← texts_get l i hil]; exact lens_mem (List.getElem_mem _)
    by_cases h0 : i = 0
    · subst h0
      have hw1 : IntKind.i64.wrap 1 = 1 := rfl
      have e : (⟨(joinP 124 (textsL l) 0 ++ sB (txt l[0])).toArray⟩ : ByteArray) = bA (joinP 124 (textsL l) 1) := by
        rw [hjs, if_pos rfl, joinP_zero]; rfl
      simp -implicitDefEqProofs [hil, hw1, shT_eq, hq]
      rw [e]
      exact ⟨by omega, 1, le_of [0] (by simp), by omega, by omega⟩
    · have h0' : 0 < i := by omega
      have e : (⟨(joinP 124 (textsL l) i ++ 124 :: sB (txt l[i])).toArray⟩ : ByteArray) = bA (joinP 124 (textsL l) (i + 1)) := by
        rw [hjs, if_neg h0]; rfl
      simp -implicitDefEqProofs [hil, hw, shT_eq, hq, h0']
      rw [e]
      exact ⟨by omega, by omega, i + 1, le_of [0] (by simp), by omega, by omega⟩
  · have : i = l.length := by omega
    subst this
    simp -implicitDefEqProofs [shT_eq]
    refine ⟨by omega, by omega, ?_⟩
    have e : (⟨(91 :: (joinP 124 (textsL l) l.length ++ [93])).toArray⟩ : ByteArray) = txt (.mk 8 ns l) := by
      rw [joinP_all _ _ _ hlen]; rfl
    rw [e]
    exact .same _ (by simp)

set_option maxHeartbeats 1000000 in
set_option maxRecDepth 10000 in
theorem rtextRec_ok (ns : List ByteArray) (l : List Sh) (hl : l.length ≤ 1000) (hnl : l.length ≤ ns.length) (hns : ∀ n ∈ ns, n.size ≤ 1000) (hn : lens (textsL l) ≤ 100000000000000) (ht : TbOk Try.prog (tbC 78 (shT (fun n => n ∈ l) (fun n => .lit (.string (txt n)))) tb0)) : FnO Try.prog 78 [.agg (rowS (.mk 6 ns l))] (.ret (.lit (.string (txt (.mk 6 ns l))))) := by
  refine fnO_wp ht fol Try.func78 rfl (by kernel_rfl) (by simp [Try.ntmps78]) (by kernel_rfl) fun I => ?_
  simp -implicitDefEqProofs [Try.ntmps78, rowS]
  have hlen := textsL_length l
  obtain ⟨zs, hzs⟩ : ∃ zs, zs = List.zipWith (fun n t => sB n ++ 58 :: t) ns (textsL l) := ⟨_, rfl⟩
  have hzl : zs.length = l.length := by rw [hzs, List.length_zipWith]; omega
  obtain ⟨g1, g2⟩ := zip_len ns (textsL l) hns
  rw [← hzs] at g1 g2
  refine w_loop (fun i : { i : Nat // i ≤ l.length } => S.mk 81 [(1, .pt 0 0), (2, .lit (.string ⟨#[]⟩)), (3, .lit (.string (bA (joinP 44 zs i.1)))), (4, .lit (.string ⟨#[44]⟩)), (5, .lit (.int .i64 l.length)), (6, .lit (.int .i64 i.1))] [(0, .cells 25 none [.lit (.int .i64 6), .sq false 1 (strsD ns), .sq false 3 (rowsS l)])] 1 [] none []) (fun i => l.length - i.1) ⟨0, Nat.zero_le _⟩ (le_of [0] (by simp [joinP_zero, bA])) fun ⟨i, hi⟩ => wp_ok ht fol _ _ _ (by kernel_rfl) ?_
  have hw : IntKind.i64.wrap ((i : Int) + 1) = (i : Int) + 1 := wrap64 (by omega) (by omega)
  have hjl := joinP_len 44 zs i
  by_cases hil : i < l.length
  · have hin : i < ns.length := by omega
    have hq : l[i] ∈ l := List.getElem_mem hil
    have hjs := joinP_succ 44 zs i (by omega)
    have hzi : zs[i]'(by omega) = sB ns[i] ++ 58 :: sB (txt l[i]) := by
      simp only [hzs, List.getElem_zipWith, texts_get l i hil]
    rw [hzi] at hjs
    have hel : (sB ns[i] ++ 58 :: sB (txt l[i])).length ≤ lens zs := by rw [← hzi]; exact lens_mem (List.getElem_mem _)
    simp only [List.length_append, List.length_cons] at hel
    by_cases h0 : i = 0
    · subst h0
      have hw1 : IntKind.i64.wrap 1 = 1 := rfl
      have e : (⟨(joinP 44 zs 0 ++ (sB ns[0] ++ 58 :: sB (txt l[0]))).toArray⟩ : ByteArray) = bA (joinP 44 zs 1) := by
        rw [hjs, if_pos rfl, joinP_zero]; rfl
      simp -implicitDefEqProofs [hil, hin, hw1, shT_eq, hq]
      rw [e]
      exact ⟨by omega, by omega, by omega, 1, le_of [0] (by simp), by omega, by omega⟩
    · have h0' : 0 < i := by omega
      have e : (⟨(joinP 44 zs i ++ 44 :: (sB ns[i] ++ 58 :: sB (txt l[i]))).toArray⟩ : ByteArray) = bA (joinP 44 zs (i + 1)) := by
        rw [hjs, if_neg h0]; rfl
      simp -implicitDefEqProofs [hil, hin, hw, shT_eq, hq, h0']
      rw [e]
      exact ⟨by omega, by omega, by omega, by omega, i + 1, le_of [0] (by simp), by omega, by omega⟩
  · have : i = l.length := by omega
    subst this
    simp -implicitDefEqProofs [shT_eq]
    refine ⟨by omega, by omega, ?_⟩
    have e : (⟨(123 :: (joinP 44 zs l.length ++ [125])).toArray⟩ : ByteArray) = txt (.mk 6 ns l) := by
      rw [joinP_all _ _ _ hzl, hzs]; rfl
    rw [e]
    exact .same _ (by simp)

set_option maxHeartbeats 1000000 in
set_option maxRecDepth 10000 in
theorem rtextFun_ok (ns : List ByteArray) (l : List Sh) (hl : l.length ≤ 1000) (n : Nat) (hnl : l.length = n + 1) (hn : lens (textsL l) ≤ 100000000000000) (ht : TbOk Try.prog (tbC 78 (shT (fun n => n ∈ l) (fun n => .lit (.string (txt n)))) tb0)) : FnO Try.prog 78 [.agg (rowS (.mk 7 ns l))] (.ret (.lit (.string (txt (.mk 7 ns l))))) := by
  refine fnO_wp ht fol Try.func78 rfl (by kernel_rfl) (by simp [Try.ntmps78]) (by kernel_rfl) fun I => ?_
  have e1 : IntKind.i64.wrap ((l.length : Int) - 1) = (n : Int) := by rw [wrap64 (by omega) (by omega)]; omega
  simp -implicitDefEqProofs [Try.ntmps78, rowS, e1]
  have hlen := textsL_length l
  obtain ⟨zs, hzs⟩ : ∃ zs, zs = (textsL l).dropLast := ⟨_, rfl⟩
  have hzl : zs.length = n := by rw [hzs, List.length_dropLast]; omega
  have g1 := last_len (textsL l)
  rw [← hzs] at g1
  refine w_loop (fun i : { i : Nat // i ≤ n } => S.mk 81 [(1, .pt 0 0), (2, .lit (.string ⟨#[]⟩)), (3, .lit (.string (bA (joinP 44 zs i.1)))), (4, .lit (.string ⟨#[44]⟩)), (5, .lit (.int .i64 n)), (6, .lit (.int .i64 i.1))] [(0, .cells 25 none [.lit (.int .i64 7), .sq false 1 (strsD ns), .sq false 3 (rowsS l)])] 1 [] none []) (fun i => n - i.1) ⟨0, Nat.zero_le _⟩ (le_of [0] (by simp [joinP_zero, bA])) fun ⟨i, hi⟩ => wp_ok ht fol _ _ _ (by kernel_rfl) ?_
  have hw : IntKind.i64.wrap ((i : Int) + 1) = (i : Int) + 1 := wrap64 (by omega) (by omega)
  have hjl := joinP_len 44 zs i
  by_cases hil : i < n
  · have hil2 : i < l.length := by omega
    have hq : l[i] ∈ l := List.getElem_mem hil2
    have hjs := joinP_succ 44 zs i (by omega)
    have hzi : zs[i]'(by omega) = sB (txt l[i]) := by
      simp only [hzs, List.getElem_dropLast, texts_get l i hil2]
    rw [hzi] at hjs
    have hel : (sB (txt l[i])).length ≤ lens zs := by rw [← hzi]; exact lens_mem (List.getElem_mem _)
    by_cases h0 : i = 0
    · subst h0
      have hw1 : IntKind.i64.wrap 1 = 1 := rfl
      have e : (⟨(joinP 44 zs 0 ++ sB (txt l[0])).toArray⟩ : ByteArray) = bA (joinP 44 zs 1) := by
        rw [hjs, if_pos rfl, joinP_zero]; rfl
      simp -implicitDefEqProofs [hil, hil2, hw1, shT_eq, hq]
      rw [e]
      exact ⟨by omega, 1, le_of [0] (by simp), by omega, by omega⟩
    · have h0' : 0 < i := by omega
      have e : (⟨(joinP 44 zs i ++ 44 :: sB (txt l[i])).toArray⟩ : ByteArray) = bA (joinP 44 zs (i + 1)) := by
        rw [hjs, if_neg h0]; rfl
      simp -implicitDefEqProofs [hil, hil2, hw, shT_eq, hq, h0']
      rw [e]
      exact ⟨by omega, by omega, i + 1, le_of [0] (by simp), by omega, by omega⟩
  · have : i = n := by omega
    subst this
    have hil2 : i < l.length := by omega
    have hq : l[i] ∈ l := List.getElem_mem hil2
    have hel : (sB (txt l[i])).length ≤ lens (textsL l) := by rw [← texts_get l i hil2]; exact lens_mem (List.getElem_mem _)
    have e5 : ((i : Int) < (l.length : Int)) := by omega
    simp -implicitDefEqProofs [shT_eq, hil2, hq, e5]
    have e : (⟨(40 :: (joinP 44 zs i ++ 41 :: 45 :: 62 :: sB (txt l[i]))).toArray⟩ : ByteArray) = txt (.mk 7 ns l) := by
      have e3 : (textsL l).getLastD [] = sB (txt l[i]) := by
        rw [List.getLastD_eq_getLast?, List.getLast?_eq_getElem?, ← texts_get l i hil2, List.getElem?_eq_getElem (by omega)]
        simp only [Option.getD_some]
        congr 1
        omega
      rw [joinP_all _ _ _ hzl, hzs, ← e3]
      simp [txt, textL, bA]
    rw [e]
    exact ⟨by omega, by omega, by omega, .same _ (by simp)⟩

theorem limP_kid {s x : Sh} (h : limP s) (hx : x ∈ s.kids) : limP x := by
  obtain ⟨k, ns, l⟩ := s
  have h1 := h.1
  simp only [limS, Bool.and_eq_true, decide_eq_true_eq] at h1
  exact ⟨limSs_mem h1.2.2.2 x hx, by have := sz_kid hx; have := h.2; omega⟩

set_option maxHeartbeats 2000000 in
set_option maxRecDepth 20000 in
theorem rtext_ok : ∀ s : Sh, limP s → rightS s = true → FnO Try.prog 78 [.agg (rowS s)] (.ret (.lit (.string (txt s))))
  | .mk k ns l, hp, hr => by
    have hk := right_kind hr
    simp only [Sh.kind] at hk
    have ht := tbC_ok (P := Try.prog) (g := 78) (shT_ok (q := fun n => n ∈ l) (r := fun n => .lit (.string (txt n))) (fun n hn => rtext_ok n (limP_kid hp hn) (right_kids hr n hn)) (by simp)) (tb0_ok _)
    have h1 := hp.1
    simp only [limS, Bool.and_eq_true, decide_eq_true_eq, List.all_eq_true] at h1
    obtain ⟨a1, a2, a3, a4⟩ := h1
    have hrs := rightSs_all (right_kids hr)
    simp only [Sh.kids] at hrs
    have hn : lens (textsL l) ≤ 100000000000000 := by
      have := textsL_len l (right_okTs l a4 hrs)
      have h2 := hp.2
      rw [sz_eq] at h2
      simp only [Sh.kids, szs] at h2
      omega
    by_cases hk5 : k ≤ 5
    · refine fnO_wp (tb0_ok _) fol Try.func78 rfl (by kernel_rfl) (by simp [Try.ntmps78]) (by kernel_rfl) fun I => ?_
      have : k = 1 ∨ k = 2 ∨ k = 3 ∨ k = 4 ∨ k = 5 := by omega
      rcases this with rfl | rfl | rfl | rfl | rfl
      all_goals
        simp -implicitDefEqProofs [Try.ntmps78, rowS]
        simp only [txt, textL]
        exact .same _ (by simp)
    · have : k = 6 ∨ k = 7 ∨ k = 8 := by omega
      rcases this with rfl | rfl | rfl
      · have := (right_rec hr rfl).1
        simp only [Sh.kids, Sh.names] at this
        exact rtextRec_ok ns l a3 (by omega) a2 hn ht
      · have := right_fun hr rfl
        simp only [Sh.kids] at this
        exact rtextFun_ok ns l a3 (l.length - 1) (by omega) hn ht
      · exact rtextOr_ok ns l a3 hn ht
termination_by s => SizeOf.sizeOf s
decreasing_by
  have := List.sizeOf_lt_of_mem hn
  simp
  omega
end Go.Proofs.Ythlebppdhipanaa
