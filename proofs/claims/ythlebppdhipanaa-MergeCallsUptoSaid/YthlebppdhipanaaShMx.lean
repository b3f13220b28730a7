/-
  What is called: small functions.
-/
import Derived.Test.YthlebppdhipanaaShZy
import Derived.Test.YthlebppdhipanaaSymb
set_option linter.all false
namespace Go.Proofs.Ythlebppdhipanaa
open Go.Ev
open Go.Aw (tiOf fieldsOf sB)

/-! ### Are all right? -/
set_option maxHeartbeats 2000000 in
set_option maxRecDepth 10000 in
theorem mright_ok (l : List Sh) (hl : l.length ≤ 1000000) (hP : ∀ s ∈ l, limP s) : FnO Try.prog 50 [.sq false 3 (rowsS l)] (.ret (.lit (.bool (l.all goodS)))) := by
  have ht := tbC_ok (shT_ok good_ok (tbool_bel _)) (tb0_ok Try.prog)
  refine fnO_wx ht fol Try.func50 rfl (by kernel_rfl) (by simp [Try.ntmps50]) (by kernel_rfl) fun I => ?_
  simp -implicitDefEqProofs [Try.ntmps50]
  refine w_loop (fun i : { i : Nat // i ≤ l.length ∧ ∀ j (h : j < l.length), j < i → goodS l[j] = true } => S.mk 15 [(2, .lit (.bool false)), (5, .sq false 3 (rowsS l)), (6, .lit (.int .i64 l.length)), (7, .lit (.int .i64 i.1))] [] 0 [] none []) (fun i => l.length - i.1) ⟨0, Nat.zero_le _, fun j _ h => by omega⟩ (le_of [] (by simp)) fun ⟨i, hi, hall⟩ => wx_ok ht fol _ _ _ (by kernel_rfl) ?_
  have hw : IntKind.i64.wrap ((i : Int) + 1) = (i : Int) + 1 := wrap64 (by omega) (by omega)
  by_cases hil : i < l.length
  · have hm : l[i] ∈ l := List.getElem_mem hil
    have pi := hP _ hm
    cases hG : goodS l[i] with
    | false =>
      simp -implicitDefEqProofs [hil, shT_eq, tbool, pi, hG]
      refine seals_bool ?_
      rw [List.all_eq_false]
      exact ⟨_, hm, by simp [hG]⟩
    | true =>
      simp -implicitDefEqProofs [hil, shT_eq, tbool, pi, hG, hw]
      exact ⟨i + 1, le_of [] (by simp), ⟨by omega, fun j hj hlt => by
        by_cases h9 : j = i
        · subst h9; exact hG
        · exact hall j hj (by omega)⟩, by omega⟩
  · have : i = l.length := by omega
    subst this
    simp -implicitDefEqProofs
    refine seals_bool ?_
    rw [List.all_eq_true]
    intro x hx
    obtain ⟨j, hj, rfl⟩ := List.mem_iff_getElem.1 hx
    exact hall j hj hj

/-! ### Those of one of some -/
set_option maxRecDepth 10000 in
theorem kids_ok (s : Sh) : FnO Try.prog 51 [.agg (rowS s)] (.ret (.sq false 3 (rowsS (flat1 s)))) := by
  refine fnO_wx (tb0_ok _) fol Try.func51 rfl (by kernel_rfl) (by simp [Try.ntmps51]) (by kernel_rfl) fun I => ?_
  by_cases h8 : s.kind = 8
  · have e : flat1 s = s.kids := by unfold flat1; rw [if_pos h8]
    rw [e]
    simp -implicitDefEqProofs [Try.ntmps51, h8]
    exact .same _ (by simp)
  · have h8b : (s.kind == 8) = false := by simpa using h8
    have e : flat1 s = [s] := by unfold flat1; rw [if_neg h8]
    rw [e]
    simp -implicitDefEqProofs [Try.ntmps51, h8b]
    exact seals_sl (ty := 25) (op := none) (rows := rowsS [s]) (by simp [rowsS]) (by simp) (rowsS_rows _) (by simp)
set_option maxRecDepth 10000 in
theorem rkids_ok (s : Sh) : FnO Try.prog 53 [.agg (rowS s)] (.ret (.sq false 3 (rowsS (flat1 s)))) := by
  refine fnO_wx (tb0_ok _) fol Try.func53 rfl (by kernel_rfl) (by simp [Try.ntmps53]) (by kernel_rfl) fun I => ?_
  by_cases h8 : s.kind = 8
  · have e : flat1 s = s.kids := by unfold flat1; rw [if_pos h8]
    rw [e]
    simp -implicitDefEqProofs [Try.ntmps53, h8]
    exact .same _ (by simp)
  · have h8b : (s.kind == 8) = false := by simpa using h8
    have e : flat1 s = [s] := by unfold flat1; rw [if_neg h8]
    rw [e]
    simp -implicitDefEqProofs [Try.ntmps53, h8b]
    exact seals_sl (ty := 25) (op := none) (rows := rowsS [s]) (by simp [rowsS]) (by simp) (rowsS_rows _) (by simp)

/-! ### What functions tell -/
def resS (g : Sh) : Sh := if g.kind = 1 then g else kid g (g.kids.length - 1)
def callable (g : Sh) : Bool := decide (g.kind = 1) || decide (g.kind = 7)
def resD (l : List Sh) : D := .tup [.sq false 3 (rowsS (if l.all callable then l.map resS else [])), .lit (.bool (l.all callable))]
def reF (l : List Sh) (i : Nat) : S := S.mk 35 [(2, .ow 0 i), (3, .lit (.bool false)), (6, .sq false 3 (rowsS l)), (7, .lit (.int .i64 l.length)), (8, .lit (.int .i64 i))] [(0, .cells 25 (some 3) (rowsS ((l.map resS).take i)).flatten)] 1 [] none []

set_option maxHeartbeats 4000000 in
set_option maxRecDepth 20000 in
theorem results_ok (l : List Sh) (hl : l.length ≤ 1000000) (hR : ∀ s ∈ l, rightS s = true) (hk : ∀ s ∈ l, s.kids.length ≤ 1000000) : FnO Try.prog 52 [.sq false 3 (rowsS l)] (.ret (resD l)) := by
  have ht := tb0_ok Try.prog
  refine fnO_wx ht fol Try.func52 rfl (by kernel_rfl) (by simp [Try.ntmps52]) (by kernel_rfl) fun I => ?_
  simp -implicitDefEqProofs [Try.ntmps52]
  refine w_loop (fun i : { i : Nat // i ≤ l.length ∧ ∀ j (h : j < l.length), j < i → callable l[j] = true } => reF l i.1) (fun i => l.length - i.1) ⟨0, Nat.zero_le _, fun j _ h => by omega⟩ ((S.le_nil 2 25 3 rfl).trans (le_of [0] (by simp [reF, rowsS]))) fun ⟨i, hi, hall⟩ => wx_ok ht fol _ _ _ (by kernel_rfl) ?_
  have hw : IntKind.i64.wrap ((i : Int) + 1) = (i : Int) + 1 := wrap64 (by omega) (by omega)
  have hrs := rowsS_flat ((l.map resS).take i)
  have hml : ((l.map resS).take i).length = i := by simp; omega
  rw [hml] at hrs
  by_cases hil : i < l.length
  · have hm : l[i] ∈ l := List.getElem_mem hil
    have ha2 : callable l[i] = true → ∀ j (h : j < l.length), j < i + 1 → callable l[j] = true := fun hc j hj hlt => by
      by_cases h9 : j = i
      · subst h9; exact hc
      · exact hall j hj (by omega)
    have et : (l.map resS).take (i + 1) = (l.map resS).take i ++ [resS l[i]] := by rw [List.take_succ_eq_append_getElem (by simpa using hil)]; simp
    by_cases h1 : l[i].kind = 1
    · have hres : resS l[i] = l[i] := by unfold resS; rw [if_pos h1]
      simp -implicitDefEqProofs [reF, hil, h1, hw]
      refine ⟨⟨by omega, by omega, by omega⟩, i + 1, le_of [3] ?_, ⟨by omega, ha2 (by simp [callable, h1])⟩, by omega⟩
      simp -implicitDefEqProofs [et, hres, rowsS_app, rowsS, rowsF_bel, rowsF_ren]
    · have h1b : (l[i].kind == 1) = false := by simpa using h1
      by_cases h7 : l[i].kind = 7
      · have h0 := right_fun (hR _ hm) h7
        have hkm := hk _ hm
        have hres : resS l[i] = l[i].kids[l[i].kids.length - 1] := by unfold resS; rw [if_neg h1, kid_eq (by omega)]
        have hw3 : IntKind.i64.wrap ((l[i].kids.length : Int) - 1) = ((l[i].kids.length - 1 : Nat) : Int) := by rw [wrap64 (by omega) (by omega)]; omega
        have hlt : l[i].kids.length - 1 < l[i].kids.length := by omega
        have hlt' : ((l[i].kids.length - 1 : Nat) : Int) < (l[i].kids.length : Int) := by omega
        simp -implicitDefEqProofs [reF, hil, h1b, h7, hw, hw3, hlt, hlt']
        refine ⟨⟨by omega, by omega, by omega⟩, i + 1, le_of [3] ?_, ⟨by omega, ha2 (by simp [callable, h7])⟩, by omega⟩
        simp -implicitDefEqProofs [et, hres, rowsS_app, rowsS, rowsF_bel, rowsF_ren]
      · have h7b : (l[i].kind == 7) = false := by simpa using h7
        simp -implicitDefEqProofs [reF, hil, h1b, h7b]
        have : l.all callable = false := by
          rw [List.all_eq_false]
          exact ⟨_, hm, by simp [callable, h1, h7]⟩
        rw [resD, this]
        exact seals_tup (sealsL_cons (.nil _ _) (sealsL_cons (.same _ (by simp)) sealsL_nil))
  · have : i = l.length := by omega
    subst this
    simp -implicitDefEqProofs [reF]
    have : l.all callable = true := by
      rw [List.all_eq_true]
      intro x hx
      obtain ⟨j, hj, rfl⟩ := List.mem_iff_getElem.1 hx
      exact hall j hj hj
    rw [resD, this, if_pos rfl]
    exact seals_tup (sealsL_cons (seals_ow (ty := 25) (op := some 3) (rows := rowsS (l.map resS)) (by simp [List.take_of_length_le]) (by simp) (rowsS_rows _) (by simp)) (sealsL_cons (.same _ (by simp)) sealsL_nil))
end Go.Proofs.Ythlebppdhipanaa

/-
  What is called: the same shapes, the same numbers; the document's capped, put.
-/
namespace Go.Proofs.Ythlebppdhipanaa
open Go.Ev
open Go.Aw (tiOf fieldsOf sB)

/-! ### The same shape -/
noncomputable def smT (q : Sh → Prop) : List D → Option (Prop × D) := ctr (fun s : Sh => [.agg (rowS s), .agg (rowS s)]) q (fun _ => .lit (.bool true))
theorem smT_eq (q : Sh → Prop) (s : Sh) : smT q [.agg (rowS s), .agg (rowS s)] = some (q s, .lit (.bool true)) := ctr_enc (fun a b h => by simp at h; exact rowS_inj _ _ h) s
theorem smT_ok {q : Sh → Prop} (h : ∀ s, q s → FnO Try.prog 27 [.agg (rowS s), .agg (rowS s)] (.ret (.lit (.bool true)))) : ∀ xs p d, smT q xs = some (p, d) → p → FnO Try.prog 27 xs (.ret d) ∧ D.belL 0 xs = true ∧ D.bel 0 d = true :=
  ctr_ok fun s hs => ⟨h s hs, by simp, by simp⟩
def smS (a : Sh) (tm : List (Nat × D)) : S := S.mk 67 ([(2, .pt 0 0), (3, .pt 1 0), (4, .lit (.bool false))] ++ tm) [(0, .cells 25 none (rowS a)), (1, .cells 25 none (rowS a))] 2 [] none []

set_option maxHeartbeats 4000000 in
set_option maxRecDepth 20000 in
theorem same_ok : ∀ (N : Nat) (a : Sh), sz a ≤ N → limP a → FnO Try.prog 27 [.agg (rowS a), .agg (rowS a)] (.ret (.lit (.bool true)))
  | 0, a, h, _ => by have := sz_pos a; omega
  | N + 1, a, hs, la => by
    have ht := tbC_ok (smT_ok (q := fun s => s ∈ a.kids) (fun s h => same_ok N s (by have := sz_kid h; omega) (limP_kid la h))) (tb0_ok Try.prog)
    obtain ⟨na1, na2, _⟩ := lim_len la
    refine fnO_wx ht fol Try.func27 rfl (by kernel_rfl) (by simp [Try.ntmps27]) (by kernel_rfl) fun I => ?_
    simp -implicitDefEqProofs [Try.ntmps27]
    refine w_loop (fun i : { i : Nat // i ≤ a.names.length } => smS a [(5, .lit (.int .i64 i.1))]) (fun i => a.names.length - i.1) ⟨0, Nat.zero_le _⟩ (le_of [0, 1] (by simp [smS])) fun ⟨i, hi⟩ => wx_ok ht fol _ _ _ (by kernel_rfl) ?_
    have hw : IntKind.i64.wrap ((i : Int) + 1) = (i : Int) + 1 := wrap64 (by omega) (by omega)
    by_cases hil : i < a.names.length
    · simp -implicitDefEqProofs [smS, hil, hw]
      exact ⟨i + 1, le_of [0, 1] (by simp), by omega, by omega⟩
    · have : i = a.names.length := by omega
      subst this
      simp -implicitDefEqProofs [smS]
      refine w_loop (fun i : { i : Nat // i ≤ a.kids.length } => smS a [(6, .lit (.int .i64 i.1))]) (fun i => a.kids.length - i.1) ⟨0, Nat.zero_le _⟩ (le_of [0, 1] (by simp [smS])) fun ⟨i, hi⟩ => wx_ok ht fol _ _ _ (by kernel_rfl) ?_
      have hw : IntKind.i64.wrap ((i : Int) + 1) = (i : Int) + 1 := wrap64 (by omega) (by omega)
      by_cases hil : i < a.kids.length
      · have hm : a.kids[i] ∈ a.kids := List.getElem_mem hil
        simp -implicitDefEqProofs [smS, hil, hw, smT_eq, hm]
        exact ⟨i + 1, le_of [0, 1] (by simp), by omega, by omega⟩
      · have : i = a.kids.length := by omega
        subst this
        simp -implicitDefEqProofs [smS]
        exact .same _ (by simp)

/-! ### The same numbers -/
def intsD (l : List Int) : List (List D) := l.map fun i => [.lit (.int .i64 i)]
@[simp] theorem intsD_length (l : List Int) : (intsD l).length = l.length := by simp [intsD]
theorem intsD_rows (l : List Int) : ∀ r ∈ intsD l, r.length = 1 := by
  intro r hr
  simp only [intsD, List.mem_map] at hr
  obtain ⟨_, _, rfl⟩ := hr
  rfl
theorem intsD_bel (n : Nat) (l : List Int) : D.belLL n (intsD l) = true := by
  induction l with
  | nil => simp [intsD]
  | cons x r ih => simp only [intsD] at ih ⊢; simp [ih]
theorem intsD_ren (f : Nat → Nat) (l : List Int) : (intsD l).map (D.renL f) = intsD l := by simp [intsD]
theorem intsD_get (l : List Int) (i : Nat) (h : i < (intsD l).length) : (intsD l)[i] = [.lit (.int .i64 (l[i]'(by simpa using h)))] := by simp [intsD]
end Go.Proofs.Ythlebppdhipanaa

/-
  What is called: the same numbers; the document's capped, put.
-/
namespace Go.Proofs.Ythlebppdhipanaa
open Go.Ev
open Go.Aw (tiOf fieldsOf sB)

def siS (l : List Int) (i : Nat) : S := S.mk 26 [(0, .sq false 1 (intsD l)), (1, .sq false 1 (intsD l)), (4, .lit (.bool false)), (5, .lit (.int .i64 i))] [] 0 [] none []
theorem intsD_belU (n : Nat) (l : List Int) : D.belLL n (intsD l) = true := intsD_bel n l
@[simp] theorem ti40 : tiOf Try.prog 40 = some ⟨1, 24, (.sl 3), [.zl]⟩ := by kernel_rfl
set_option maxHeartbeats 2000000 in
set_option maxRecDepth 10000 in
theorem sameI_ok (l : List Int) (hl : l.length ≤ 1000000) : FnO Try.prog 28 [.sq false 1 (intsD l), .sq false 1 (intsD l)] (.ret (.lit (.bool true))) := by
  have ht := tb0_ok Try.prog
  refine fnO_wx ht fol Try.func28 rfl (by kernel_rfl) (by simp [Try.ntmps28]) (by kernel_rfl) fun I => ?_
  simp -implicitDefEqProofs [Try.ntmps28]
  refine w_loop (fun i : { i : Nat // i ≤ l.length } => siS l i.1) (fun i => l.length - i.1) ⟨0, Nat.zero_le _⟩ (le_of [] (by simp [siS, intsD_bel, intsD_ren])) fun ⟨i, hi⟩ => wx_ok ht fol _ _ _ (by kernel_rfl) ?_
  have hw : IntKind.i64.wrap ((i : Int) + 1) = (i : Int) + 1 := wrap64 (by omega) (by omega)
  by_cases hil : i < l.length
  · simp -implicitDefEqProofs [siS, hil, hw, intsD_get]
    exact ⟨i + 1, le_of [] (by simp [siS, intsD_bel, intsD_ren]), by omega, by omega⟩
  · have : i = l.length := by omega
    subst this
    simp -implicitDefEqProofs [siS]
    exact .same _ (by simp)

set_option maxRecDepth 10000 in
theorem rcap_ok (s : Sh) : FnO Try.prog 63 [.agg (rowS s)] (.ret (.agg (rowS (capS s)))) := by
  have ht := tbC_ok (prT_ok (q := fun _ i => i = 512) (fun n i h => by omega)) (tb0_ok Try.prog)
  refine fnO_wx ht fol Try.func63 rfl (by kernel_rfl) (by simp [Try.ntmps63]) (by kernel_rfl) fun I => ?_
  by_cases h5 : sz s ≤ 512
  · have hp : partsR s 512 = (sz s : Int) := by unfold partsR; omega
    have h6 : ¬ ((512 : Int) < (sz s : Int)) := by omega
    have : capS s = s := by unfold capS fewS; rw [if_pos (by simpa using h5)]
    rw [this]
    simp -implicitDefEqProofs [Try.ntmps63, prT_eq, hp, h6]
    exact .same _ (by simp)
  · have hp : partsR s 512 = 513 := by unfold partsR; omega
    have : capS s = .mk 1 [] [] := by unfold capS fewS; rw [if_neg (by simpa using h5)]
    rw [this]
    simp -implicitDefEqProofs [Try.ntmps63, prT_eq, hp]
    exact seals_agg (sealsL_cons (.same _ (by simp)) (sealsL_cons (.nil _ _) (sealsL_cons (.nil _ _) sealsL_nil)))
theorem rcapN_ok (l : List Sh) : FnO Try.prog 63 [.agg [.lit (.int .i64 8), .lit (.slice none 0 0), .sq false 3 (rowsS l)]] (.ret (.agg (rowS (capS (.mk 8 [] l))))) := by
  refine fnO_args (rcap_ok _) rfl fun M i d d' v h1 h2 hR => ?_
  cases i with
  | succ i => simp at h1
  | zero =>
    simp at h1 h2
    subst h1 h2
    cases hR with
    | agg _ cs hs g1 g2 =>
    refine .agg _ cs (by simpa using hs) (fun i d hi => ?_) (fun i d hi => ?_)
    · match i, hi with
      | 0, hi => exact g1 0 _ rfl
      | 1, hi => exact g1 1 _ rfl
      | 2, hi => exact g1 2 _ rfl
      | i + 3, hi => simp [rowS] at hi
    · match i, hi with
      | 0, hi => simp [rowS] at hi; subst hi; exact g2 0 _ rfl
      | 1, hi =>
        simp [rowS, strsD] at hi; subst hi
        have := (g2 1 _ rfl).litE
        rw [this]
        exact .sqn _ _ _
      | 2, hi => simp [rowS] at hi; subst hi; exact g2 2 _ rfl
      | i + 3, hi => simp [rowS] at hi

/-! ### put -/
def putS : List Sh → Sh → List Sh
  | [], s => [s]
  | x :: r, s => if ltB (txt x) (txt s) then x :: putS r s else if txt x = txt s then x :: r else s :: x :: r
/-- Where it would stand. -/
def putN (l : List Sh) (s : Sh) (i : Nat) : Prop := (∀ j (h : j < l.length), j < i → ltB (txt l[j]) (txt s) = true) ∧ ∀ h : i < l.length, ltB (txt l[i]) (txt s) = false
theorem putS_at : ∀ (l : List Sh) (s : Sh) (i : Nat), i ≤ l.length → putN l s i → (∀ h : i < l.length, txt l[i] = txt s → putS l s = l) ∧ ((∀ h : i < l.length, txt l[i] ≠ txt s) → putS l s = l.take i ++ s :: l.drop i)
  | [], s, i, hi, _ => by
    have : i = 0 := by simpa using hi
    subst this
    exact ⟨fun h => by simp at h, fun _ => by simp [putS]⟩
  | x :: r, s, 0, _, ⟨_, h2⟩ => by
    have h2 := h2 (by simp)
    simp only [List.getElem_cons_zero] at h2
    refine ⟨fun _ he => ?_, fun hn => ?_⟩
    · simp only [List.getElem_cons_zero] at he
      rw [putS, if_neg (by rw [h2]; simp), if_pos he]
    · have hn := hn (by simp)
      simp only [List.getElem_cons_zero] at hn
      rw [putS, if_neg (by rw [h2]; simp), if_neg hn]
      simp
  | x :: r, s, i + 1, hi, ⟨h1, h2⟩ => by
    have h0 := h1 0 (by simp) (by omega)
    simp only [List.getElem_cons_zero] at h0
    obtain ⟨g1, g2⟩ := putS_at r s i (by simpa using hi) ⟨fun j hj hlt => by have := h1 (j + 1) (by simpa using hj) (by omega); simpa using this, fun h => by have := h2 (by simpa using h); simpa using this⟩
    refine ⟨fun h he => ?_, fun hn => ?_⟩
    · rw [putS, h0, if_pos rfl, g1 (by simpa using h) (by simpa using he)]
    · rw [putS, h0, if_pos rfl, g2 fun h => by have := hn (by simpa using h); simpa using this]
      simp

noncomputable def rtT : List D → Option (Prop × D) := shT (fun n => limP n ∧ rightS n = true) (fun n => .lit (.string (txt n)))
theorem rtT_eq (n : Sh) : rtT [.agg (rowS n)] = some (limP n ∧ rightS n = true, .lit (.string (txt n))) := shT_eq _ _ n
theorem rtT_ok : ∀ xs p d, rtT xs = some (p, d) → p → FnO Try.prog 78 xs (.ret d) ∧ D.belL 0 xs = true ∧ D.bel 0 d = true := shT_ok (fun n h => rtext_ok n h.1 h.2) (by simp)

set_option maxHeartbeats 4000000 in
set_option maxRecDepth 20000 in
theorem put_ok (l : List Sh) (s : Sh) (hl : l.length ≤ 1000000) (hP : ∀ x ∈ l, limP x ∧ rightS x = true) (ps : limP s) (rs : rightS s = true) : FnO Try.prog 62 [.sq false 3 (rowsS l), .agg (rowS s)] (.ret (.sq false 3 (rowsS (putS l s)))) := by
  have ht := tbC_ok rtT_ok (tb0_ok Try.prog)
  refine fnO_of Try.func62 rfl (by kernel_rfl) (by simp [Try.ntmps62]) fun I => ?_
  refine w_seq (wx_ok ht fol _ _ _ (by kernel_rfl) ?_)
  simp -implicitDefEqProofs [Try.ntmps62]
  refine w_seq (wx_ok ht fol _ _ _ (by kernel_rfl) ?_)
  simp -implicitDefEqProofs
  refine w_frz 3 0 rfl rfl fun b1 => ?_
  simp -implicitDefEqProofs
  refine w_seq (w_block ?_)
  refine w_loop (fun i : { i : Nat // i ≤ l.length ∧ ∀ j (h : j < l.length), j < i → ltB (txt l[j]) (txt s) = true } => S.mk 49 [(0, .sq false 3 (rowsS l)), (3, .ps (some b1) (rowS s) 0), (4, .lit (.slice none 0 0)), (5, .lit (.int .i64 i.1))] [] 0 [] none []) (fun i => l.length - i.1) ⟨0, Nat.zero_le _, fun j _ h => by omega⟩ ?_ fun ⟨i, hi, hall⟩ => wx_ok ht fol _ _ _ (by kernel_rfl) ?_
  · exact le_of [] (by simp)
  have hw : IntKind.i64.wrap ((i : Int) + 1) = (i : Int) + 1 := wrap64 (by omega) (by omega)
  have hcut1 : Aw.cutL (rowsS l) 0 (i : Int) = rowsS (l.take i) := by simp [Aw.cutL, rowsS_map]
  have hcut2 : Aw.cutL (rowsS l) (i : Int) (l.length : Int) = rowsS (l.drop i) := by simp [Aw.cutL, rowsS_map, List.take_of_length_le]
  have hrs1 := rowsS_flat (l.take i)
  have hrs2 := rowsS_flat (l.drop i)
  have hl1 : (l.take i).length = i := by simp; omega
  have hl2 : (l.drop i).length = l.length - i := by simp
  have fin : putS l s = l.take i ++ s :: l.drop i → W Try.prog none I (match Try.f62.body with | some (.seq _ (.seq _ (.seq _ (.seq _ c)))) => c | _ => .skip) (leavesK Try.prog Try.f62 (fun d s' => Seals s'.hp d (.sq false 3 (rowsS (putS l s)))) (fun _ _ => False)) (S.mk 49 [(0, .sq false 3 (rowsS l)), (3, .ps (some b1) (rowS s) 0), (5, .lit (.int .i64 i))] [] 0 [] none []) := fun e => by
    rw [e]
    have fl1 := rowsS_rows (l.take i)
    have fl2 := rowsS_rows (l.drop i)
    by_cases hi0 : i = 0
    · subst hi0
      refine w_seq (w_drawB true (b := 12) ht fol (by kernel_rfl) (by kernel_rfl) ?_)
      have hcut3 : Aw.cutL (rowsS l) 0 (l.length : Int) = rowsS l := by simp [Aw.cutL, rowsS_map, List.take_of_length_le]
      have hcut4 : Aw.cutL (rowsS l) 0 0 = [] := by simp [Aw.cutL]
      have hrs3 := rowsS_flat l
      simp -implicitDefEqProofs [hcut3, hcut4, hi, hrs3]
      refine ⟨⟨rowsS_rows l, by omega, by omega⟩, ?_⟩
      refine seqOk_step rfl rfl rfl ?_
      simp -implicitDefEqProofs
      refine seqOk_nil (by simp) ?_
      simp -implicitDefEqProofs
      refine wx_ok ht fol _ _ _ (by kernel_rfl) ?_
      simp -implicitDefEqProofs
      exact seals_ow (ty := 25) (op := some 3) (rows := rowsS (s :: l)) (by simp [rowsS]) (by simp; omega) (rowsS_rows _) (by simp)
    · refine w_seq (w_drawB false (b := 12) ht fol (by kernel_rfl) (by kernel_rfl) ?_)
      have hi1 : 0 < i := by omega
      simp -implicitDefEqProofs [hcut1, hcut2, hi, hrs1, hrs2, hl1, hl2, hi1]
      refine ⟨⟨fl1, by omega, by omega⟩, ⟨by omega, by omega⟩, ⟨fl2, by omega, by omega, by omega⟩, ?_⟩
      refine seqOk_step rfl rfl rfl ?_
      simp -implicitDefEqProofs
      refine seqOk_nil (by simp) ?_
      simp -implicitDefEqProofs
      refine wx_ok ht fol _ _ _ (by kernel_rfl) ?_
      simp -implicitDefEqProofs
      exact seals_ow (ty := 25) (op := some 3) (rows := rowsS (l.take i ++ s :: l.drop i)) (by simp [rowsS_app, rowsS]) (by simp; omega) (rowsS_rows _) (by simp)
  have rest : ((∀ j (h : j < l.length), j < i → ltB (txt l[j]) (txt s) = true) ∧ ∀ h : i < l.length, ltB (txt l[i]) (txt s) = false) → W Try.prog none I (match Try.f62.body with | some (.seq _ (.seq _ (.seq _ c))) => c | _ => .skip) (leavesK Try.prog Try.f62 (fun d s' => Seals s'.hp d (.sq false 3 (rowsS (putS l s)))) (fun _ _ => False)) (S.mk 49 [(0, .sq false 3 (rowsS l)), (3, .ps (some b1) (rowS s) 0), (5, .lit (.int .i64 i))] [] 0 [] none []) := fun hN => by
    obtain ⟨p1, p2⟩ := putS_at l s i hi hN
    refine w_seq (wx_ok ht fol _ _ _ (by kernel_rfl) ?_)
    by_cases hil : i < l.length
    · by_cases he : txt l[i] = txt s
      · rw [p1 hil he]
        simp -implicitDefEqProofs [hil, rtT_eq, he]
        exact ⟨hP _ (List.getElem_mem hil), ⟨ps, rs⟩, .same _ (by simp)⟩
      · have := p2 fun _ => he
        simp -implicitDefEqProofs [hil, rtT_eq, he]
        exact ⟨hP _ (List.getElem_mem hil), ⟨ps, rs⟩, w_weaken (le_of [] (by simp)) (fin this)⟩
    · have := p2 fun h => absurd h hil
      simp -implicitDefEqProofs [hil]
      exact w_weaken (le_of [] (by simp)) (fin this)
  by_cases hil : i < l.length
  · cases hlt : ltB (txt l[i]) (txt s) with
    | true =>
      have hlt' : Op.bytesLess (sB (txt l[i])) (sB (txt s)) = true := hlt
      simp -implicitDefEqProofs [hil, rtT_eq, hlt', hw]
      refine ⟨hP _ (List.getElem_mem hil), ⟨ps, rs⟩, i + 1, le_of [] (by simp), ⟨by omega, fun j h hj => ?_⟩, by omega⟩
      by_cases hji : j = i
      · subst hji; exact hlt
      · exact hall j h (by omega)
    | false =>
      have hlt' : Op.bytesLess (sB (txt l[i])) (sB (txt s)) = false := hlt
      simp -implicitDefEqProofs [hil, rtT_eq, hlt']
      exact ⟨hP _ (List.getElem_mem hil), ⟨ps, rs⟩, w_weaken (le_of [] (by simp)) (rest ⟨hall, fun _ => hlt⟩)⟩
  · simp -implicitDefEqProofs [hil]
    exact w_weaken (le_of [] (by simp)) (rest ⟨hall, fun h => absurd h hil⟩)
end Go.Proofs.Ythlebppdhipanaa

/-
  The document's one of some: by definition, and that it is the program's (plain).
-/
namespace Go.Proofs.Ythlebppdhipanaa
open Go.Ev
open Go.Aw (tiOf fieldsOf sB)

/-! ### Put one by one -/
def insS (l : List Sh) : List Sh := l.foldl putS []
theorem insS_app (l r : List Sh) : insS (l ++ r) = r.foldl putS (insS l) := by simp [insS]
theorem insS_one (l : List Sh) (s : Sh) : insS (l ++ [s]) = putS (insS l) s := by rw [insS_app]; rfl
theorem putS_mem : ∀ {l : List Sh} {s x : Sh}, x ∈ putS l s → x ∈ l ∨ x = s
  | [], s, x, h => by simpa [putS] using h
  | y :: r, s, x, h => by
    simp only [putS] at h
    split at h
    · rcases List.mem_cons.1 h with rfl | h
      · exact .inl (by simp)
      · rcases putS_mem h with h | h
        · exact .inl (by simp [h])
        · exact .inr h
    · split at h
      · exact .inl h
      · rcases List.mem_cons.1 h with rfl | h
        · exact .inr rfl
        · exact .inl h
theorem putS_len : ∀ (l : List Sh) (s : Sh), (putS l s).length ≤ l.length + 1 ∧ 0 < (putS l s).length
  | [], s => by simp [putS]
  | y :: r, s => by
    have := putS_len r s
    simp only [putS]
    split
    · simp; omega
    · split <;> simp
theorem foldP_len : ∀ (r l : List Sh), (r.foldl putS l).length ≤ l.length + r.length
  | [], l => by simp
  | s :: r, l => by
    have h1 := putS_len l s
    have h2 := foldP_len r (putS l s)
    simp only [List.foldl_cons, List.length_cons]
    omega
theorem foldP_mem : ∀ (r l : List Sh) {x : Sh}, x ∈ r.foldl putS l → x ∈ l ∨ x ∈ r
  | [], l, x, h => .inl h
  | s :: r, l, x, h => by
    rcases foldP_mem r _ h with h | h
    · rcases putS_mem h with h | rfl
      · exact .inl h
      · exact .inr (by simp)
    · exact .inr (by simp [h])
theorem insS_len (l : List Sh) : (insS l).length ≤ l.length := by have := foldP_len l []; simpa [insS] using this
theorem insS_mem {l : List Sh} {x : Sh} (h : x ∈ insS l) : x ∈ l := by
  rcases foldP_mem l [] h with h | h
  · simp at h
  · exact h

/-! ### In order -/
def ltS (a b : Sh) : Prop := sB (txt a) < sB (txt b)
theorem ltS_trans {a b c : Sh} (h : ltS a b) (k : ltS b c) : ltS a c := List.lt_trans h k
theorem ltS_irr (a : Sh) : ¬ ltS a a := List.lt_irrefl _
theorem ltS_or {a b : Sh} (h : ltB (txt a) (txt b) = false) (hn : txt a ≠ txt b) : ltS b a := by
  have h1 : ¬ sB (txt a) < sB (txt b) := fun k => by rw [(ltB_iff _ _).2 k] at h; cases h
  rcases List.le_iff_lt_or_eq.1 (List.not_lt.1 h1) with h2 | h2
  · exact h2
  · exact absurd (sB_inj h2).symm hn
theorem putS_spec : ∀ {l : List Sh} {s : Sh}, l.Pairwise ltS → (∀ x ∈ l, rightS x = true) → rightS s = true → (putS l s).Pairwise ltS ∧ ∀ x, x ∈ putS l s ↔ x ∈ l ∨ x = s
  | [], s, _, _, _ => by simp [putS]
  | y :: r, s, h, hr, hs => by
    obtain ⟨h1, h2⟩ := List.pairwise_cons.1 h
    simp only [putS]
    split
    · rename_i hlt
      obtain ⟨g1, g2⟩ := putS_spec h2 (fun x hx => hr x (by simp [hx])) hs
      refine ⟨List.pairwise_cons.2 ⟨fun x hx => ?_, g1⟩, fun x => ?_⟩
      · rcases (g2 x).1 hx with hx | rfl
        · exact h1 x hx
        · exact (ltB_iff _ _).1 hlt
      · simp only [List.mem_cons, g2 x]
        constructor
        · rintro (h | h | h) <;> simp [h]
        · rintro ((h | h) | h) <;> simp [h]
    · rename_i hlt
      split
      · rename_i he
        have : y = s := text_inj (hr y (by simp)) hs he
        subst this
        refine ⟨h, fun x => ?_⟩
        simp only [List.mem_cons]
        constructor
        · exact .inl
        · rintro (h | h)
          · exact h
          · exact .inl h
      · rename_i he
        have hsy : ltS s y := ltS_or (by simpa using hlt) he
        refine ⟨List.pairwise_cons.2 ⟨fun x hx => ?_, h⟩, fun x => ?_⟩
        · rcases List.mem_cons.1 hx with rfl | hx
          · exact hsy
          · exact ltS_trans hsy (h1 x hx)
        · simp only [List.mem_cons]
          constructor
          · rintro (h | h | h) <;> simp [h]
          · rintro ((h | h) | h) <;> simp [h]
theorem foldP_spec : ∀ (r l : List Sh), l.Pairwise ltS → (∀ x ∈ l, rightS x = true) → (∀ x ∈ r, rightS x = true) → (r.foldl putS l).Pairwise ltS ∧ ∀ x, x ∈ r.foldl putS l ↔ x ∈ l ∨ x ∈ r
  | [], l, h, _, _ => ⟨h, fun x => by simp⟩
  | s :: r, l, h, hl, hr => by
    obtain ⟨g1, g2⟩ := putS_spec h hl (hr s (by simp))
    obtain ⟨k1, k2⟩ := foldP_spec r (putS l s) g1 (fun x hx => by
      rcases (g2 x).1 hx with hx | rfl
      · exact hl x hx
      · exact hr x (by simp)) (fun x hx => hr x (by simp [hx]))
    refine ⟨k1, fun x => ?_⟩
    rw [List.foldl_cons, k2 x, g2 x]
    simp only [List.mem_cons]
    constructor
    · rintro ((h | h) | h) <;> simp [h]
    · rintro (h | h | h) <;> simp [h]
theorem order_eq : ∀ {l r : List Sh}, l.Pairwise ltS → r.Pairwise ltS → (∀ x, x ∈ l ↔ x ∈ r) → l = r
  | [], [], _, _, _ => rfl
  | [], y :: r, _, _, h => by have := (h y).2 (by simp); simp at this
  | x :: l, [], _, _, h => by have := (h x).1 (by simp); simp at this
  | x :: l, y :: r, h1, h2, h => by
    obtain ⟨a1, a2⟩ := List.pairwise_cons.1 h1
    obtain ⟨b1, b2⟩ := List.pairwise_cons.1 h2
    have hxy : x = y := by
      rcases List.mem_cons.1 ((h x).1 (by simp)) with e | e
      · exact e
      · rcases List.mem_cons.1 ((h y).2 (by simp)) with e' | e'
        · exact e'.symm
        · exact absurd (ltS_trans (a1 y e') (b1 x e)) (ltS_irr x)
    subst hxy
    rw [order_eq a2 b2 fun z => ?_]
    constructor
    · intro hz
      rcases List.mem_cons.1 ((h z).1 (by simp [hz])) with e | e
      · subst e; exact absurd (a1 z hz) (ltS_irr z)
      · exact e
    · intro hz
      rcases List.mem_cons.1 ((h z).2 (by simp [hz])) with e | e
      · subst e; exact absurd (b1 z hz) (ltS_irr z)
      · exact e
theorem ins_out {fl : List Sh} (hr : ∀ s ∈ fl, rightS s = true) : insS fl = outS fl := by
  obtain ⟨g1, g2⟩ := foldP_spec fl [] List.Pairwise.nil (fun x hx => by simp at hx) hr
  refine order_eq g1 ?_ fun x => ?_
  · have := rising_pair (out_rising hr)
    rw [List.pairwise_map] at this
    exact this
  · rw [out_mem hr x]
    have := g2 x
    simpa [insS] using this

/-! ### One of some, the document's -/
def rorS (l : List Sh) : Sh := if l.all goodS then (if insS (flatS l) = [] then .mk 0 [] [] else if l.any (fun s => decide (s.kind = 1)) then .mk 1 [] [] else oneS (insS (flatS l))) else .mk 0 [] []
theorem ror_or (l : List Sh) (hP : ∀ s ∈ l, limP s) : rorS l = orS l := by
  unfold rorS orS
  cases hg : l.all goodS with
  | false => simp
  | true =>
    have hall : ∀ s ∈ l, goodS s = true := by simpa using hg
    have hfr : ∀ s ∈ flatS l, rightS s = true := fun s hs => (flat_good hall hP s hs).2
    by_cases h0 : l = []
    · subst h0; simp [flatS, insS]
    have hne := flat_ne h0 hall
    have hle : l.isEmpty = false := by simpa using h0
    rw [ins_out hfr]
    have hon := out_ne hfr hne
    simp only [if_neg hon, hle]
    simp only [if_true, Bool.not_true, Bool.or_self, Bool.false_eq_true, if_false]
    unfold flS
    cases hf : l.find? fun s => decide (s.kind = 1) with
    | none =>
      have : (l.any fun s => decide (s.kind = 1)) = false := by
        rw [List.find?_eq_none] at hf
        simpa using hf
      rw [this]
      rfl
    | some s =>
      have h1 := List.find?_some hf
      have hm := List.mem_of_find?_eq_some hf
      have : (l.any fun s => decide (s.kind = 1)) = true := by
        rw [List.any_eq_true]
        exact ⟨s, hm, h1⟩
      rw [this]
      have hs : s = .mk 1 [] [] := dyn_eq (good_right (hall s hm)) (by simpa using h1)
      have hr1 : ∀ x ∈ [s], rightS x = true := fun x hx => by simp at hx; subst hx; exact good_right (hall x hm)
      have he : outS [s] = [s] := by rw [← ins_out hr1]; rfl
      rw [if_pos rfl]
      show _ = oneS (outS [s])
      rw [he, hs]
      rfl
end Go.Proofs.Ythlebppdhipanaa
