/-
  The text of a record's shape: the walk.
-/
import Derived.Test.YthlebppdhipanaaShef
set_option linter.all false
namespace Go.Proofs.Ythlebppdhipanaa
open Go.Ev
open Go.Aw (tiOf fieldsOf sB)

/-- What the caller's slots hold. -/
def exR (ns : List ByteArray) (l : List Sh) : List D := [.agg [.lit (.int .i64 6), .sq false 1 (strsD ns), .sq false 3 (rowsS l)], .pt 0 0, .lit (.string ⟨#[]⟩), .fn (.func 80) [] [], .pt 0 0, .lit (.int .i64 6),
  .lit (.bool false), .lit (.bool false), .lit (.bool false), .lit (.bool false), .lit (.bool false), .lit (.bool false), .lit (.bool false), .lit (.bool false), .lit (.bool false), .lit (.bool false), .lit (.bool false), .lit (.bool false), .lit (.bool true), .lit (.bool true), .pt 0 2, .sq false 3 (rowsS l)]
def inF (ns : List ByteArray) (l : List Sh) (i : Nat) : S :=
  S.mk 23 [(3, .ow 1 l.length), (9, .sq false 3 (rowsS l)), (10, .lit (.int .i64 l.length)), (11, .lit (.int .i64 i))] [(0, .cells 25 none [.lit (.int .i64 6), .sq false 1 (strsD ns), .sq false 3 (rowsS l)]), (1, .cells 9 (some 1) (stL l i))] 2 [] none (exR ns l)

theorem txt_map' (l : List Sh) : (l.map txt).map sB = textsL l := by
  induction l with
  | nil => rfl
  | cons x r ih => simp [textsL, ih, txt, ← bA.eq_def]
def recB (n t : ByteArray) : ByteArray := bA (sB n ++ 58 :: sB t)
/-- The texts, with the names ahead of the first ones. -/
def reS (ns : List ByteArray) (l : List Sh) (i : Nat) : List ByteArray := (List.zipWith recB ns (l.map txt)).take i ++ (l.map txt).drop i
def reL (ns : List ByteArray) (l : List Sh) (i : Nat) : List D := (reS ns l i).map fun b => D.lit (.string b)
@[simp] theorem reL_bel (ns : List ByteArray) (l : List Sh) (i : Nat) : D.belL 0 (reL ns l i) = true := by
  refine belL_all fun d hd => ?_
  simp only [reL, List.mem_map] at hd
  obtain ⟨b, _, rfl⟩ := hd
  simp
@[simp] theorem reL_belU (n : Nat) (ns : List ByteArray) (l : List Sh) (i : Nat) : D.belL n (reL ns l i) = true := belL_up n _ (reL_bel ns l i)
@[simp] theorem reL_ren (f : Nat → Nat) (ns : List ByteArray) (l : List Sh) (i : Nat) : D.renL f (reL ns l i) = reL ns l i := renL_free f _ (reL_bel ns l i)
theorem reL_zero (ns : List ByteArray) (l : List Sh) : stL l l.length = reL ns l 0 := by
  simp only [stL, reL, reS, Nat.sub_self, List.replicate_zero, List.append_nil, List.take_zero, List.drop_zero, List.nil_append, List.map_map]
  rw [List.take_of_length_le (by simp)]
  rfl
theorem reS_length {ns : List ByteArray} {l : List Sh} (h : l.length ≤ ns.length) (i : Nat) (hi : i ≤ l.length) : (reS ns l i).length = l.length := by
  simp [reS]; omega
theorem reL_length {ns : List ByteArray} {l : List Sh} (h : l.length ≤ ns.length) (i : Nat) (hi : i ≤ l.length) : (reL ns l i).length = l.length := by
  simp [reL, reS_length h i hi]

theorem reL_at {ns : List ByteArray} {l : List Sh} (h : l.length ≤ ns.length) {i : Nat} (hi : i < l.length) (hq : i < (reL ns l i).length) : (reL ns l i)[i]'hq = .lit (.string (txt l[i])) := by
  have e1 : ((List.zipWith recB ns (l.map txt)).take i).length = i := by simp; omega
  simp only [reL, List.getElem_map, reS]
  congr 2
  rw [List.getElem_append_right (by omega)]
  simp [e1]
theorem reL_step {ns : List ByteArray} {l : List Sh} (h : l.length ≤ ns.length) {i : Nat} (hi : i < l.length) : (reL ns l i).take i ++ .lit (.string (recB (ns[i]'(by omega)) (txt l[i]))) :: (reL ns l i).drop (i + 1) = reL ns l (i + 1) := by
  have e1 : ((List.zipWith recB ns (l.map txt)).take i).length = i := by simp; omega
  have e2 : (reS ns l i).take i = (List.zipWith recB ns (l.map txt)).take i := by
    rw [reS, List.take_append_of_le_length (by omega), List.take_of_length_le (by omega)]
  have e3 : (reS ns l i).drop (i + 1) = (l.map txt).drop (i + 1) := by
    rw [reS, List.drop_append, List.drop_of_length_le (by omega), e1, List.nil_append, List.drop_drop]
    congr 1
    omega
  rw [reL, ← List.map_take, ← List.map_drop, e2, e3, reL, reS, List.take_succ_eq_append_getElem (by simp; omega)]
  simp

theorem reS_full {ns : List ByteArray} {l : List Sh} (h : l.length ≤ ns.length) : (reS ns l l.length).map sB = List.zipWith (fun n t => sB n ++ 58 :: t) ns (textsL l) := by
  have e1 : (List.zipWith recB ns (l.map txt)).length = l.length := by simp; omega
  rw [reS, List.take_of_length_le (by omega), List.drop_of_length_le (by simp), List.append_nil, ← txt_map', List.map_zipWith]
  simp only [List.zipWith_map_right]
  rfl
theorem rec_eq {ns : List ByteArray} {l : List Sh} (h : l.length ≤ ns.length) : jnB ⟨#[123]⟩ (reS ns l l.length) ⟨#[44]⟩ ⟨#[125]⟩ = txt (.mk 6 ns l) := by
  rw [jnB, reS_full h]
  simp [txt, textL, bA, sB]

set_option maxHeartbeats 2000000 in
set_option maxRecDepth 20000 in
theorem rec_ok (ns : List ByteArray) (l : List Sh) (h2 : l.length ≤ 1000) (h3 : l.length ≤ ns.length) (hns : ∀ n ∈ ns, n.size ≤ 1000) (htx : ∀ n ∈ l, (txt n).size ≤ 2000000000000) (hjn : (txt (.mk 6 ns l)).size ≤ 140737488355328) (h46 : ∀ n, n ∈ l → FnO Try.prog 46 [.agg (rowS n)] (.ret (.lit (.string (txt n))))) :
    FnO Try.prog 46 [.agg (rowS (.mk 6 ns l))] (.ret (.lit (.string (txt (.mk 6 ns l))))) := by
  have ht := tbC_ok (P := Try.prog) (g := 46) (f := txT (fun n => n ∈ l)) (ctr_ok fun n hn => ⟨h46 n hn, by simp, by simp⟩) (tb0_ok _)
  refine fnO_wp ht fol Try.func46 rfl (by kernel_rfl) (by simp [Try.ntmps46]) (by kernel_rfl) fun I => ?_
  simp -implicitDefEqProofs [Try.ntmps46, rowS]
  refine callS_inline Try.func81 rfl (by kernel_rfl) (by simp [Try.ntmps81]) rfl (by simp) trivial (wp_ok ht fol _ _ _ (by kernel_rfl) ?_)
  simp -implicitDefEqProofs [Try.ntmps81, S.inl]
  refine ⟨by omega, ?_⟩
  refine w_loop (fun i : { i : Nat // i ≤ l.length } => inF ns l i.1) (fun i => l.length - i.1) ⟨0, Nat.zero_le _⟩ (le_of [0, 1] (by simp [inF, exR, stL_zero])) fun ⟨i, hi⟩ => wp_ok ht fol _ _ _ (by kernel_rfl) ?_
  have hw : IntKind.i64.wrap ((i : Int) + 1) = (i : Int) + 1 := wrap64 (by omega) (by omega)
  by_cases hil : i < l.length
  · have hqi : l[i] ∈ l := List.getElem_mem hil
    simp -implicitDefEqProofs [inF, exR, hil, hw, txT_eq, hqi, hi]
    rw [stL_step l i hil]
    exact ⟨by omega, i + 1, le_of [0, 1] (by simp), by omega, by omega⟩
  · have : i = l.length := by omega
    subst this
    simp -implicitDefEqProofs [inF, exR, S.outl]
    refine w_loop (fun i : { i : Nat // i ≤ l.length } => S.mk 72 [(1, .pt 0 0), (3, .fn (.func 80) [] []), (4, .ow 1 l.length), (32, .lit (.int .i64 l.length)), (33, .lit (.int .i64 i.1))] [(0, .cells 25 none [.lit (.int .i64 6), .sq false 1 (strsD ns), .sq false 3 (rowsS l)]), (1, .cells 9 (some 1) (reL ns l i.1))] 2 [] none []) (fun i => l.length - i.1) ⟨0, Nat.zero_le _⟩ (le_of [0, 1] (by simp [reL_zero ns])) fun ⟨i, hi⟩ => wp_ok ht fol _ _ _ (by kernel_rfl) ?_
    have hw : IntKind.i64.wrap ((i : Int) + 1) = (i : Int) + 1 := wrap64 (by omega) (by omega)
    have hrl := reL_length h3 i hi
    by_cases hil : i < l.length
    · have hin : i < ns.length := by omega
      have hat := reL_at h3 hil (by rw [hrl]; exact hil)
      simp -implicitDefEqProofs [hil, hw, hi, hin, hrl, hat]
      have f1 := hns ns[i] (List.getElem_mem hin)
      have f2 := htx l[i] (List.getElem_mem hil)
      have f3 : ∀ b : ByteArray, (sB b).length = b.size := fun b => by simp [sB]
      have f4 : (⟨(sB ns[i] ++ 58 :: sB (txt l[i])).toArray⟩ : ByteArray) = recB ns[i] (txt l[i]) := rfl
      rw [f3, f3, f4, reL_step h3 hil]
      exact ⟨by omega, by omega, by omega, by omega, i + 1, le_of [0, 1] (by simp), by omega, by omega⟩
    · have : i = l.length := by omega
      subst this
      simp -implicitDefEqProofs
      have e1 := rec_eq h3
      have e2 : (reS ns l l.length).length = l.length := reS_length h3 _ (Nat.le_refl _)
      have e3 : reL ns l l.length = (strsD (reS ns l l.length)).flatten := by
        simp only [reL, strsD]
        generalize reS ns l l.length = xs
        induction xs with
        | nil => rfl
        | cons x r ih => simpa using ih
      have hO := jn_ok ⟨#[123]⟩ (reS ns l l.length) ⟨#[44]⟩ ⟨#[125]⟩ (by omega) (by rw [e1]; exact hjn)
      rw [e1] at hO
      refine callS_seal (args' := [.lit (.string ⟨#[123]⟩), .sq false 1 (strsD (reS ns l l.length)), .lit (.string ⟨#[44]⟩), .lit (.string ⟨#[125]⟩)]) [] [] rfl (by simp) (by simp) rfl (fun i d' hi => ?_) hO (by simp) (by simp) trivial ?_
      · match i, hi with
        | 0, hi => simp at hi; subst hi; exact ⟨_, rfl, .same _ (by simp)⟩
        | 1, hi => simp at hi; subst hi; exact ⟨_, rfl, seals_ow (rows := strsD (reS ns l l.length)) (by rw [← e3]; rfl) (by simp [e2]) (strsD_rows _) (by simp)⟩
        | 2, hi => simp at hi; subst hi; exact ⟨_, rfl, .same _ (by simp)⟩
        | 3, hi => simp at hi; subst hi; exact ⟨_, rfl, .same _ (by simp)⟩
        | i + 4, hi => simp at hi
      · simp -implicitDefEqProofs [S.sld]
        exact .same _ (by simp)
end Go.Proofs.Ythlebppdhipanaa
