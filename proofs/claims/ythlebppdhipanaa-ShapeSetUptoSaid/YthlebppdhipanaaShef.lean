/-
  Texts of shapes: by the program.
-/
import Derived.Test.YthlebppdhipanaaShD
import Derived.Test.YthlebppdhipanaaSyV
set_option linter.all false
namespace Go.Proofs.Ythlebppdhipanaa
open Go.Ev
open Go.Aw (tiOf fieldsOf sB)

/-! ### rising -/
def ltB (a b : ByteArray) : Bool := Op.bytesLess (sB a) (sB b)
def risingB : List ByteArray → Bool
  | a :: b :: r => ltB a b && risingB (b :: r)
  | _ => true

theorem rising_iff : ∀ l : List ByteArray, risingB l = true ↔ ∀ j (h : j + 1 < l.length), ltB l[j] l[j + 1] = true
  | [] => by simp [risingB]
  | [a] => by simp [risingB]
  | a :: b :: r => by
    simp only [risingB, Bool.and_eq_true, rising_iff (b :: r)]
    constructor
    · rintro ⟨h1, h2⟩ j hj
      cases j with
      | zero => exact h1
      | succ j => exact h2 j (by simpa using hj)
    · intro h
      exact ⟨h 0 (by simp), fun j hj => h (j + 1) (by simpa using hj)⟩
theorem rising_yes {l : List ByteArray} (h : ∀ j (h : j + 1 < l.length), ltB l[j] l[j + 1] = true) : risingB l = true := (rising_iff l).2 h
theorem rising_no {l : List ByteArray} {i : Nat} (hi : i + 1 < l.length) (h : ltB l[i] l[i + 1] = false) : risingB l = false := by
  cases hr : risingB l with
  | false => rfl
  | true => rw [(rising_iff l).1 hr i hi] at h; cases h

set_option maxRecDepth 10000 in
theorem rising_ok (f : Bool) (l : List ByteArray) (hl : l.length ≤ 1000000) : FnO Try.prog 98 [.sq f 1 (strsD l)] (.ret (.lit (.bool (risingB l)))) := by
  have ht := tb0_ok Try.prog
  refine fnO_wp ht fol Try.func98 rfl (by kernel_rfl) (by simp [Try.ntmps98]) (by kernel_rfl) fun I => ?_
  simp -implicitDefEqProofs [Try.ntmps98]
  refine w_loop (fun i : { i : Nat // 1 ≤ i ∧ i ≤ max 1 l.length ∧ ∀ j (h : j + 1 < l.length), j + 1 < i → ltB l[j] l[j + 1] = true } => S.mk 20 [(0, .sq f 1 (strsD l)), (3, .lit (.int .i64 i.1))] [] 0 [] none []) (fun i => max 1 l.length - i.1) ⟨1, by omega, by omega, fun j _ h => by omega⟩ (le_of [] (by simp)) fun ⟨i, h1, hi, hall⟩ => wp_ok ht fol _ _ _ (by kernel_rfl) ?_
  have hw : IntKind.i64.wrap ((i : Int) + 1) = (i : Int) + 1 := wrap64 (by omega) (by omega)
  obtain ⟨i, rfl⟩ : ∃ k, i = k + 1 := ⟨i - 1, by omega⟩
  have hw2 : IntKind.i64.wrap (i : Int) = (i : Int) := wrap64 (by omega) (by omega)
  have hw3 : IntKind.i64.wrap ((i : Int) + 1 + 1) = (i : Int) + 1 + 1 := wrap64 (by omega) (by omega)
  by_cases hil : i + 1 < l.length
  · have hil2 : (i : Int) + 1 < (l.length : Int) := by omega
    have hil3 : i < l.length := by omega
    simp -implicitDefEqProofs [hil, hil2, hil3, hw3, hw2]
    refine ⟨by omega, fun h => seals_bool ?_, fun h => ⟨i + 1 + 1, le_of [] (by simp), ⟨by omega, by omega, fun j hj hlt => ?_⟩, by omega⟩⟩
    · exact rising_no hil h
    · by_cases h2 : j = i
      · subst h2; exact h
      · exact hall j hj (by omega)
  · have hil2 : ¬ (i : Int) + 1 < (l.length : Int) := by omega
    simp -implicitDefEqProofs [hil2]
    refine seals_bool ?_
    exact rising_yes fun j hj => hall j hj (by omega)

/-! ### texts of shapes -/
mutual
def textL : Sh → List UInt8
  | .mk k ns l => if k = 1 then [100, 121, 110] else if k = 2 then [105, 110, 116] else if k = 3 then [98, 111, 111, 108] else if k = 4 then [116, 101, 120, 116] else if k = 5 then [110, 111, 110, 101]
    else if k = 8 then 91 :: Lib.join (textsL l) [124] ++ [93]
    else if k = 6 then 123 :: Lib.join (List.zipWith (fun n t => sB n ++ 58 :: t) ns (textsL l)) [44] ++ [125]
    else 40 :: Lib.join (textsL l).dropLast [44] ++ [41, 45, 62] ++ (textsL l).getLastD []
def textsL : List Sh → List (List UInt8)
  | [] => []
  | n :: r => textL n :: textsL r
end
def txt (s : Sh) : ByteArray := ⟨(textL s).toArray⟩

noncomputable def txT (q : Sh → Prop) : List D → Option (Prop × D) := ctr (fun n : Sh => [.agg (rowS n)]) q (fun n => .lit (.string (txt n)))
theorem txT_eq (q : Sh → Prop) (n : Sh) : txT q [.agg (rowS n)] = some (q n, .lit (.string (txt n))) := ctr_enc (fun a b h => by simp at h; exact rowS_inj _ _ h) n

/-- What lies in the list while it is filled. -/
def stL (l : List Sh) (i : Nat) : List D := ((l.map fun n => D.lit (.string (txt n))).take i) ++ List.replicate (l.length - i) (.lit (.string ⟨#[]⟩))
@[simp] theorem stL_length (l : List Sh) (i : Nat) (h : i ≤ l.length) : (stL l i).length = l.length := by simp [stL]; omega

theorem belL_all {n : Nat} : ∀ {l : List D}, (∀ d ∈ l, D.bel n d = true) → D.belL n l = true
  | [], _ => by simp
  | d :: r, h => by simp [h d (by simp), belL_all (l := r) fun e he => h e (by simp [he])]
@[simp] theorem stL_bel (l : List Sh) (i : Nat) : D.belL 0 (stL l i) = true := by
  refine belL_all fun d hd => ?_
  simp only [stL, List.mem_append, List.mem_replicate] at hd
  rcases hd with hd | ⟨_, rfl⟩
  · have := List.mem_of_mem_take hd
    simp only [List.mem_map] at this
    obtain ⟨n, _, rfl⟩ := this
    simp
  · simp
@[simp] theorem stL_belU (n : Nat) (l : List Sh) (i : Nat) : D.belL n (stL l i) = true := belL_up n _ (stL_bel l i)
@[simp] theorem stL_ren (f : Nat → Nat) (l : List Sh) (i : Nat) : D.renL f (stL l i) = stL l i := renL_free f _ (stL_bel l i)
theorem zeros_str : ∀ n : Nat, zerosE { size := 1, bytes := 16, k := Aw.TK.str, z := [Aw.Z.zs] } n = List.replicate n (.lit (.string ⟨#[]⟩))
  | 0 => rfl
  | n + 1 => by rw [zerosE, zeros_str n]; rfl
theorem stL_zero (l : List Sh) : zerosE { size := 1, bytes := 16, k := Aw.TK.str, z := [Aw.Z.zs] } l.length = stL l 0 := by
  rw [zeros_str]; simp [stL]
theorem stL_step (l : List Sh) (i : Nat) (h : i < l.length) : (stL l i).take i ++ .lit (.string (txt l[i])) :: (stL l i).drop (i + 1) = stL l (i + 1) := by
  have e1 : ((l.map fun n => D.lit (.string (txt n))).take i).length = i := by simp; omega
  have e2 : (stL l i).take i = (l.map fun n => D.lit (.string (txt n))).take i := by
    rw [stL, List.take_append_of_le_length (by omega)]
    rw [List.take_of_length_le (by omega)]
  have e3 : (stL l i).drop (i + 1) = List.replicate (l.length - (i + 1)) (.lit (.string ⟨#[]⟩)) := by
    rw [stL, List.drop_append, List.drop_of_length_le (by omega), e1, List.nil_append, List.drop_replicate]
    congr 1
    omega
  rw [e2, e3, stL, List.take_succ_eq_append_getElem (by simpa using h)]
  simp
theorem stL_full (l : List Sh) : stL l l.length = (strsD (l.map txt)).flatten := by
  simp only [stL, Nat.sub_self, List.replicate_zero, List.append_nil]
  rw [List.take_of_length_le (by simp)]
  induction l with
  | nil => rfl
  | cons x r ih => simpa [strsD] using ih

set_option maxRecDepth 10000 in
theorem texts_ok (q : Sh → Prop) (h46 : ∀ n, q n → FnO Try.prog 46 [.agg (rowS n)] (.ret (.lit (.string (txt n))))) (f : Bool) (l : List Sh) (hl : l.length ≤ 1000) (hq : ∀ n ∈ l, q n) : FnO Try.prog 81 [.sq f 3 (rowsS l)] (.ret (.sq false 1 (strsD (l.map txt)))) := by
  have ht := tbC_ok (P := Try.prog) (g := 46) (f := txT q) (ctr_ok fun n hn => ⟨h46 n hn, by simp, by simp⟩) (tb0_ok _)
  refine fnO_wp ht fol Try.func81 rfl (by kernel_rfl) (by simp [Try.ntmps81]) (by kernel_rfl) fun I => ?_
  simp -implicitDefEqProofs [Try.ntmps81]
  refine ⟨by omega, ?_⟩
  refine w_loop (fun i : { i : Nat // i ≤ l.length } => S.mk 23 [(3, .ow 0 l.length), (9, .sq f 3 (rowsS l)), (10, .lit (.int .i64 l.length)), (11, .lit (.int .i64 i.1))] [(0, .cells 9 (some 1) (stL l i.1))] 1 [] none []) (fun i => l.length - i.1) ⟨0, Nat.zero_le _⟩ (le_of [0] (by simp [stL_zero])) fun ⟨i, hi⟩ => wp_ok ht fol _ _ _ (by kernel_rfl) ?_
  have hw : IntKind.i64.wrap ((i : Int) + 1) = (i : Int) + 1 := wrap64 (by omega) (by omega)
  by_cases hil : i < l.length
  · have hqi := hq l[i] (List.getElem_mem hil)
    simp -implicitDefEqProofs [hil, hw, txT_eq, hqi, hi]
    rw [stL_step l i hil]
    exact ⟨by omega, i + 1, le_of [0] (by simp), by omega, by omega⟩
  · have : i = l.length := by omega
    subst this
    simp -implicitDefEqProofs
    rw [stL_full]
    exact seals_ow (rows := strsD (l.map txt)) rfl (by simp) (strsD_rows _) (by simp)
end Go.Proofs.Ythlebppdhipanaa

/-
  The text of a shape: by the program.
-/
namespace Go.Proofs.Ythlebppdhipanaa
open Go.Ev
open Go.Aw (tiOf fieldsOf sB)

/-! ### join, with something ahead and behind -/
noncomputable def joT : List D → Option (Prop × D) := ctr (fun p : List ByteArray × ByteArray => [.sq false 1 (strsD p.1), .lit (.string p.2)]) (fun p => p.1.length ≤ 140737488355328 ∧ (joinB p.1 p.2).size ≤ 140737488355328) (fun p => .lit (.string (joinB p.1 p.2)))
theorem joT_eq (xs : List ByteArray) (sep : ByteArray) : joT [.sq false 1 (strsD xs), .lit (.string sep)] = some (xs.length ≤ 140737488355328 ∧ (joinB xs sep).size ≤ 140737488355328, .lit (.string (joinB xs sep))) :=
  ctr_enc (fun a b h => by simp at h; exact Prod.ext (strsD_inj _ _ h.1) h.2) (xs, sep)

/-- A text out of bytes. -/
def bA (l : List UInt8) : ByteArray := ⟨l.toArray⟩
@[simp] theorem sB_bA (l : List UInt8) : sB (bA l) = l := rfl
@[simp] theorem bA_size (l : List UInt8) : (bA l).size = l.length := by simp [bA, ByteArray.size]

def jnB (o : ByteArray) (xs : List ByteArray) (b e : ByteArray) : ByteArray := bA (sB o ++ Lib.join (xs.map sB) (sB b) ++ sB e)
theorem joinB_eq (xs : List ByteArray) (b : ByteArray) : joinB xs b = bA (Lib.join (xs.map sB) (sB b)) := rfl

set_option maxRecDepth 10000 in
theorem jn_ok (o : ByteArray) (xs : List ByteArray) (b e : ByteArray) (hx : xs.length ≤ 1000000) (hs : (jnB o xs b e).size ≤ 140737488355328) : FnO Try.prog 80 [.lit (.string o), .sq false 1 (strsD xs), .lit (.string b), .lit (.string e)] (.ret (.lit (.string (jnB o xs b e)))) := by
  have ht := tbC_ok (P := Try.prog) (g := 75) (f := joT) (ctr_ok fun p hp => ⟨join_ok false p.1 p.2 hp.1 hp.2, by simp, by simp⟩) (tb0_ok _)
  have hs2 : (joinB xs b).size ≤ 140737488355328 := by
    simp only [jnB, joinB_eq, bA_size, List.length_append] at hs ⊢
    omega
  have hx2 : xs.length ≤ 140737488355328 := by omega
  refine fnO_wp ht fol Try.func80 rfl (by kernel_rfl) (by simp [Try.ntmps80]) (by kernel_rfl) fun I => ?_
  simp -implicitDefEqProofs [Try.ntmps80, joT_eq, hs2, hx2]
  simp only [jnB, joinB_eq, bA_size, List.length_append] at hs
  have e1 : (sB o).length = o.size := by simp [sB]
  simp only [joinB_eq, sB_bA] at *
  refine ⟨by omega, by omega, ?_⟩
  have e2 : jnB o xs b e = ⟨(sB o ++ (Lib.join (xs.map sB) (sB b) ++ sB e)).toArray⟩ := by simp [jnB, bA]
  rw [e2]
  exact .same _ (by simp)

/-! ### What has a text -/
mutual
def okT : Sh → Bool
  | .mk k ns l => (decide (1 ≤ k) && decide (k ≤ 5)) || (okTs l && (decide (l.length ≤ 1000) && (decide (ns.length ≤ 1000) && ((ns.all fun n => decide (n.size ≤ 1000)) && (if k = 8 then true else if k = 6 then decide (l.length ≤ ns.length) else decide (0 < l.length))))))
def okTs : List Sh → Bool
  | [] => true
  | n :: r => okT n && okTs r
end
theorem okTs_mem : ∀ {l : List Sh}, okTs l = true → ∀ x ∈ l, okT x = true
  | [], _, x, h => by simp at h
  | n :: r, h, x, hx => by
    simp only [okTs, Bool.and_eq_true] at h
    rcases List.mem_cons.1 hx with rfl | hx
    · exact h.1
    · exact okTs_mem h.2 x hx

open Go.Lib (lens)
theorem lens_cons (x : List UInt8) (r : List (List UInt8)) : lens (x :: r) = x.length + lens r := by simp [lens]
theorem join_len (c : UInt8) (xs : List (List UInt8)) : (Lib.join xs [c]).length ≤ lens xs + xs.length := by
  cases xs with
  | nil => simp [Lib.join_nil]
  | cons x r =>
    rw [Lib.join_length]
    simp
    omega
theorem zip_len : ∀ (ns : List ByteArray) (ts : List (List UInt8)), (∀ n ∈ ns, n.size ≤ 1000) → lens (List.zipWith (fun n t => sB n ++ 58 :: t) ns ts) ≤ lens ts + 1001 * ts.length ∧ (List.zipWith (fun n t => sB n ++ 58 :: t) ns ts).length ≤ ts.length
  | [], ts, _ => by simp [lens]
  | _ :: _, [], _ => by simp
  | n :: ns, t :: ts, h => by
    obtain ⟨h1, h2⟩ := zip_len ns ts fun m hm => h m (by simp [hm])
    have h3 := h n (by simp)
    have h4 : (sB n).length = n.size := by simp [sB]
    simp only [List.zipWith_cons_cons, lens_cons, List.length_cons, List.length_append]
    omega
theorem last_len : ∀ ts : List (List UInt8), lens ts.dropLast + (ts.getLastD []).length = lens ts
  | [] => rfl
  | [t] => by simp [lens]
  | t :: u :: r => by
    have := last_len (u :: r)
    simp only [List.dropLast_cons_cons, lens_cons] at this ⊢
    have e : (t :: u :: r).getLastD [] = (u :: r).getLastD [] := by simp [List.getLastD]
    rw [e]
    omega
theorem textsL_length : ∀ l : List Sh, (textsL l).length = l.length
  | [] => rfl
  | x :: r => by simp [textsL, textsL_length r]

mutual
theorem textL_len : ∀ s : Sh, okT s = true → (textL s).length ≤ 2000000 * (partsL s).length
  | .mk k ns l, h => by
    have hl := textsL_length l
    simp only [okT, Bool.or_eq_true, Bool.and_eq_true, decide_eq_true_eq, List.all_eq_true] at h
    rw [partsL, List.length_cons]
    rcases h with h | ⟨h1, h2, h3, h4, h5⟩
    · unfold textL
      have : k = 1 ∨ k = 2 ∨ k = 3 ∨ k = 4 ∨ k = 5 := by omega
      rcases this with rfl | rfl | rfl | rfl | rfl <;> simp <;> omega
    · have h6 := textsL_len l h1
      unfold textL
      repeat' split
      any_goals (simp; omega)
      · have := join_len 124 (textsL l)
        simp only [List.length_cons, List.length_append, List.length_nil]
        omega
      · have := join_len 44 (List.zipWith (fun n t => sB n ++ 58 :: t) ns (textsL l))
        obtain ⟨g1, g2⟩ := zip_len ns (textsL l) h4
        simp only [List.length_cons, List.length_append, List.length_nil]
        omega
      · have := join_len 44 (textsL l).dropLast
        have g := last_len (textsL l)
        have g2 : (textsL l).dropLast.length ≤ (textsL l).length := by simp
        simp only [List.length_cons, List.length_append, List.length_nil]
        omega
theorem textsL_len : ∀ l : List Sh, okTs l = true → lens (textsL l) ≤ 2000000 * (partsLs l).length
  | [], _ => by simp [textsL, lens]
  | n :: r, h => by
    simp only [okTs, Bool.and_eq_true] at h
    have h1 := textL_len n h.1
    have h2 := textsL_len r h.2
    rw [textsL, lens_cons, partsLs, List.length_append]
    omega
end
end Go.Proofs.Ythlebppdhipanaa
