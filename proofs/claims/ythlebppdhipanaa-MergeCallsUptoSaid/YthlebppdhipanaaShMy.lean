/-
  The document's one of some: walked.
-/
import Derived.Test.YthlebppdhipanaaShMx
import Derived.Test.YthlebppdhipanaaSymb
set_option linter.all false
namespace Go.Ev
/-- No slice is one that does not change. -/
theorem S.le_sqn {rl : Option Nat} {s : S} (t : Nat) (f : Bool) (sz : Nat) (ht : lk s.tm t = some (.lit (.slice none 0 0))) : s.le rl { s with tm := up s.tm t (.sq f sz []) } := by
  refine ⟨rfl, fun r M w a zs hrr hr => ⟨M, ⟨hr.h, hr.sz, fun u d e => ?_, hr.df, hr.ex⟩, ExtW.refl M w, hrr⟩⟩
  simp only [lk_up] at e
  by_cases h1 : t = u
  · subst h1
    rw [if_pos rfl] at e
    cases e
    have hv := hr.t t _ ht
    generalize a.tmps.getD t undef = v at hv
    cases hv
    exact .sqn _ _ _
  · rw [if_neg h1] at e
    exact hr.t u d e
end Go.Ev
namespace Go.Proofs.Ythlebppdhipanaa
open Go.Ev
open Go.Aw (tiOf fieldsOf sB)

noncomputable def puT : List D → Option (Prop × D) := ctr (fun p : List Sh × Sh => [.sq false 3 (rowsS p.1), .agg (rowS p.2)]) (fun p => p.1.length ≤ 1000000 ∧ (∀ x ∈ p.1, limP x ∧ rightS x = true) ∧ limP p.2 ∧ rightS p.2 = true) (fun p => .sq false 3 (rowsS (putS p.1 p.2)))
theorem puT_eq (l : List Sh) (s : Sh) : puT [.sq false 3 (rowsS l), .agg (rowS s)] = some (l.length ≤ 1000000 ∧ (∀ x ∈ l, limP x ∧ rightS x = true) ∧ limP s ∧ rightS s = true, .sq false 3 (rowsS (putS l s))) :=
  ctr_enc (enc := fun p : List Sh × Sh => [D.sq false 3 (rowsS p.1), .agg (rowS p.2)]) (fun a b h => by simp at h; exact Prod.ext (rowsS_inj _ _ h.1) (rowS_inj _ _ h.2)) (l, s)
theorem puT_ok : ∀ xs p d, puT xs = some (p, d) → p → FnO Try.prog 62 xs (.ret d) ∧ D.belL 0 xs = true ∧ D.bel 0 d = true :=
  ctr_ok fun p h => ⟨put_ok p.1 p.2 h.1 h.2.1 h.2.2.1 h.2.2.2, by simp, by simp⟩
noncomputable def rcT : List D → Option (Prop × D) := ctr (fun l : List Sh => [.agg [.lit (.int .i64 8), .lit (.slice none 0 0), .sq false 3 (rowsS l)]]) (fun _ => True) (fun l => .agg (rowS (capS (.mk 8 [] l))))
theorem rcT_eq (l : List Sh) : rcT [.agg [.lit (.int .i64 8), .lit (.slice none 0 0), .sq false 3 (rowsS l)]] = some (True, .agg (rowS (capS (.mk 8 [] l)))) := ctr_enc (fun a b h => by simp at h; exact rowsS_inj _ _ h) l
theorem rcT_ok : ∀ xs p d, rcT xs = some (p, d) → p → FnO Try.prog 63 xs (.ret d) ∧ D.belL 0 xs = true ∧ D.bel 0 d = true :=
  ctr_ok fun l _ => ⟨rcapN_ok l, by simp, by simp⟩
noncomputable def rorC : Code := match Try.f32.body with
  | some (.seq _ (.seq _ c)) => c
  | _ => .skip

def dynB (l : List Sh) : Bool := l.any fun s => decide (s.kind = 1)
def rorF (l : List Sh) (i : Nat) (q : List Sh) (b : Bool) : S := S.mk 76 [(0, .sq false 3 (rowsS l)), (2, .pt 0 0), (3, .sq false 3 (rowsS q)), (4, .lit (.bool b)), (5, .lit (.int .i64 i))] [(0, .cells 25 none zrow)] 1 [] none []

set_option maxHeartbeats 4000000 in
set_option maxRecDepth 20000 in
theorem ror_ok (l : List Sh) (hz : szs l ≤ 900000) (hP : ∀ s ∈ l, limP s) : FnO Try.prog 32 [.sq false 3 (rowsS l)] (.ret (.agg (rowS (rorS l)))) := by
  have ht := tbC_ok (shT_ok rgood_ok (tbool_bel _)) (tbC_ok puT_ok (tbC_ok rcT_ok (tb0_ok Try.prog)))
  have hlz := szs_len l
  have hl2 : l.length ≤ 1000000 := by omega
  have hfb : ∀ i, (insS (flatS (l.take i))).length ≤ 900000 := fun i => by
    have h1 := insS_len (flatS (l.take i))
    have h2 := szs_len (flatS (l.take i))
    have h3 := szs_flat (l.take i)
    have h4 : szs (l.take i) ≤ szs l := by
      have := szs_app (l.take i) (l.drop i)
      rw [List.take_append_drop] at this
      omega
    omega
  refine fnO_wx ht fol Try.func32 rfl (by kernel_rfl) (by simp [Try.ntmps32]) (by kernel_rfl) fun I => ?_
  simp -implicitDefEqProofs [Try.ntmps32]
  refine w_loop (fun i : { i : Nat // i ≤ l.length ∧ ∀ s ∈ l.take i, goodS s = true } => rorF l i.1 (insS (flatS (l.take i.1))) (dynB (l.take i.1))) (fun i => l.length - i.1) ⟨0, Nat.zero_le _, fun s hs => by simp at hs⟩ ((S.le_sqn 3 false 3 rfl).trans (le_of [0] (by simp [rorF, flatS, insS, dynB, zrow, rowsS]))) fun ⟨i, hi, hgd⟩ => wx_ok ht fol _ _ _ (by kernel_rfl) ?_
  have hw : IntKind.i64.wrap ((i : Int) + 1) = (i : Int) + 1 := wrap64 (by omega) (by omega)
  have hqm : ∀ x ∈ insS (flatS (l.take i)), limP x ∧ rightS x = true := fun x hx => flat_good hgd (fun s hs => hP s (List.mem_of_mem_take hs)) x (insS_mem hx)
  by_cases hil : i < l.length
  · have hm : l[i] ∈ l := List.getElem_mem hil
    have ht1 : l.take (i + 1) = l.take i ++ [l[i]] := List.take_succ_eq_append_getElem hil
    have hd1 : dynB (l.take (i + 1)) = (dynB (l.take i) || decide (l[i].kind = 1)) := by rw [ht1]; simp only [dynB, List.any_append, List.any_cons, List.any_nil, Bool.or_false]
    have hqi := hfb i
    have hf1 : flatS (l.take (i + 1)) = flatS (l.take i) ++ flat1 l[i] := by rw [ht1, flatS_app, flatS_one]
    have hfl2 : (insS (flatS (l.take i))).length + (flat1 l[i]).length ≤ 900000 := by
      have h0 := insS_len (flatS (l.take i))
      have h1 := szs_len (flatS (l.take (i + 1)))
      have h2 := szs_flat (l.take (i + 1))
      have h3 : szs (l.take (i + 1)) ≤ szs l := by
        have := szs_app (l.take (i + 1)) (l.drop (i + 1))
        rw [List.take_append_drop] at this
        omega
      have h4 : (flatS (l.take (i + 1))).length = (flatS (l.take i)).length + (flat1 l[i]).length := by rw [hf1, List.length_append]
      omega
    generalize hq : insS (flatS (l.take i)) = q at *
    generalize hb : dynB (l.take i) = b at *
    cases hg : goodS l[i] with
    | false =>
      have e : rorS l = .mk 0 [] [] := by
        have : l.all goodS = false := by rw [List.all_eq_false]; exact ⟨_, hm, by simp [hg]⟩
        unfold rorS; rw [this]; rfl
      rw [e]
      simp -implicitDefEqProofs [rorF, hil, shT_eq, tbool, hg]
      exact ⟨hP _ hm, by simp [zrow], seals_agg (sealsL_cons (.same _ (by simp)) (sealsL_cons (.nil _ _) (sealsL_cons (.nil _ _) sealsL_nil)))⟩
    | true =>
      have hgd2 : ∀ s ∈ l.take (i + 1), goodS s = true := fun s hs => by
        rw [ht1, List.mem_append] at hs
        rcases hs with hs | hs
        · exact hgd s hs
        · simp at hs; subst hs; exact hg
      by_cases h8 : l[i].kind = 8
      · have h1 : ¬ l[i].kind = 1 := by omega
        have h1b : (l[i].kind == 1) = false := by simpa using h1
        have e1 : flat1 l[i] = l[i].kids := by unfold flat1; rw [if_pos h8]
        have e2 : insS (flatS (l.take (i + 1))) = l[i].kids.foldl putS q := by rw [hf1, e1, insS_app, hq]
        have e3 : dynB (l.take (i + 1)) = b := by rw [hd1]; simp [h1]
        have hkl : l[i].kids.length ≤ 900000 := by
          have h1 := szs_len l[i].kids
          have h2 := szs_flat1 l[i]
          have h3 := szs_mem hm
          rw [e1] at h2
          omega
        have hkm : ∀ x ∈ l[i].kids, limP x ∧ rightS x = true := fun x hx => flat_good (l := [l[i]]) (fun s hs => by simp at hs; subst hs; exact hg) (fun s hs => by simp at hs; subst hs; exact hP _ hm) x (by rw [flatS_one, e1]; exact hx)
        rw [e1] at hfl2
        generalize hks : l[i].kids = ks at *
        have step : ∀ j (h : j < ks.length), (ks.take (j + 1)).foldl putS q = putS ((ks.take j).foldl putS q) ks[j] := fun j h => by
          rw [List.take_succ_eq_append_getElem h, List.foldl_append]; rfl
        have hfm : ∀ j, ∀ x ∈ (ks.take j).foldl putS q, limP x ∧ rightS x = true := fun j x hx => by
          rcases foldP_mem _ _ hx with h | h
          · exact hqm x h
          · exact hkm x (List.mem_of_mem_take h)
        have hfn : ∀ j, ((ks.take j).foldl putS q).length ≤ 900000 := fun j => by
          have := foldP_len (ks.take j) q
          rw [List.length_take] at this
          omega
        cases hb2 : b with
        | true =>
          simp -implicitDefEqProofs [rorF, hil, shT_eq, tbool, hg, h8]
          refine ⟨hP _ hm, ?_⟩
          refine w_loop (fun j : { j : Nat // j ≤ ks.length } => S.mk 76 [(0, .sq false 3 (rowsS l)), (2, .pt 0 0), (3, .sq false 3 (rowsS ((ks.take j.1).foldl putS q))), (4, .lit (.bool true)), (5, .lit (.int .i64 i)), (6, .lit (.int .i64 j.1))] [(0, .cells 25 none zrow)] 1 [] none []) (fun j => ks.length - j.1) ⟨0, Nat.zero_le _⟩ (le_of [0] (by simp [zrow])) fun ⟨j, hj⟩ => wx_ok ht fol _ _ _ (by kernel_rfl) ?_
          have hw2 : IntKind.i64.wrap ((j : Int) + 1) = (j : Int) + 1 := wrap64 (by omega) (by omega)
          have hfmj := hfm j
          have hfnj := hfn j
          by_cases hjl : j < ks.length
          · have hst := step j hjl
            generalize hqq : (ks.take j).foldl putS q = qq at *
            simp -implicitDefEqProofs [hil, hjl, hks, puT_eq, hw2]
            have hkj := hkm _ (List.getElem_mem hjl)
            exact ⟨⟨by omega, hfmj, hkj.1, hkj.2⟩, j + 1, le_of [0] (by simp [hst, zrow]), by omega, by omega⟩
          · have hjj : j = ks.length := by omega
            subst hjj
            rw [List.take_length] at *
            generalize hqq : ks.foldl putS q = qq at *
            simp -implicitDefEqProofs [hil, hks, hw]
            exact ⟨i + 1, le_of [0] (by simp [e2, e3, hb2, zrow]), ⟨by omega, hgd2⟩, by omega⟩
        | false =>
          simp -implicitDefEqProofs [rorF, hil, shT_eq, tbool, hg, h8, h1b]
          refine ⟨hP _ hm, ?_⟩
          refine w_loop (fun j : { j : Nat // j ≤ ks.length } => S.mk 76 [(0, .sq false 3 (rowsS l)), (2, .pt 0 0), (3, .sq false 3 (rowsS ((ks.take j.1).foldl putS q))), (4, .lit (.bool false)), (5, .lit (.int .i64 i)), (6, .lit (.int .i64 j.1))] [(0, .cells 25 none zrow)] 1 [] none []) (fun j => ks.length - j.1) ⟨0, Nat.zero_le _⟩ (le_of [0] (by simp [zrow])) fun ⟨j, hj⟩ => wx_ok ht fol _ _ _ (by kernel_rfl) ?_
          have hw2 : IntKind.i64.wrap ((j : Int) + 1) = (j : Int) + 1 := wrap64 (by omega) (by omega)
          have hfmj := hfm j
          have hfnj := hfn j
          by_cases hjl : j < ks.length
          · have hst := step j hjl
            generalize hqq : (ks.take j).foldl putS q = qq at *
            simp -implicitDefEqProofs [hil, hjl, hks, puT_eq, hw2]
            have hkj := hkm _ (List.getElem_mem hjl)
            exact ⟨⟨by omega, hfmj, hkj.1, hkj.2⟩, j + 1, le_of [0] (by simp [hst, zrow]), by omega, by omega⟩
          · have hjj : j = ks.length := by omega
            subst hjj
            rw [List.take_length] at *
            generalize hqq : ks.foldl putS q = qq at *
            simp -implicitDefEqProofs [hil, hks, hw]
            exact ⟨i + 1, le_of [0] (by simp [e2, e3, hb2, zrow]), ⟨by omega, hgd2⟩, by omega⟩
      · have h8b : (l[i].kind == 8) = false := by simpa using h8
        have h8c : (l[i].kind != 8) = true := by simpa using h8
        have e1 : flat1 l[i] = [l[i]] := by unfold flat1; rw [if_neg h8]
        have e2 : insS (flatS (l.take (i + 1))) = putS q l[i] := by rw [hf1, e1, insS_one, hq]
        cases hb2 : b with
        | true =>
          have e3 : dynB (l.take (i + 1)) = true := by rw [hd1, hb2]; rfl
          simp -implicitDefEqProofs [rorF, hil, shT_eq, tbool, hg, h8, h8b, h8c, puT_eq, hw]
          exact ⟨hP _ hm, ⟨by omega, hqm, hP _ hm, good_right hg⟩, i + 1, le_of [0] (by simp [e2, e3, zrow]), ⟨by omega, hgd2⟩, by omega⟩
        | false =>
          by_cases h1 : l[i].kind = 1
          · have e3 : dynB (l.take (i + 1)) = true := by rw [hd1, hb2]; simp [h1]
            simp -implicitDefEqProofs [rorF, hil, shT_eq, tbool, hg, h1, puT_eq, hw]
            exact ⟨hP _ hm, ⟨by omega, hqm, hP _ hm, good_right hg⟩, i + 1, le_of [0] (by simp [e2, e3, zrow]), ⟨by omega, hgd2⟩, by omega⟩
          · have h1b : (l[i].kind == 1) = false := by simpa using h1
            have e3 : dynB (l.take (i + 1)) = false := by rw [hd1, hb2]; simp [h1]
            simp -implicitDefEqProofs [rorF, hil, shT_eq, tbool, hg, h8, h8b, h8c, h1, h1b, puT_eq, hw]
            exact ⟨hP _ hm, ⟨by omega, hqm, hP _ hm, good_right hg⟩, i + 1, le_of [0] (by simp [e2, e3, zrow]), ⟨by omega, hgd2⟩, by omega⟩
  · have : i = l.length := by omega
    subst this
    rw [List.take_length] at hqm hgd
    have hall : l.all goodS = true := by simpa using hgd
    have hql := hfb l.length
    rw [List.take_length] at hql
    by_cases h0 : insS (flatS l) = []
    · have e : rorS l = .mk 0 [] [] := by unfold rorS; rw [if_pos hall, if_pos h0]
      rw [e]
      simp -implicitDefEqProofs [rorF, h0, rowsS, zrow]
      exact seals_agg (sealsL_cons (.same _ (by simp)) (sealsL_cons (.nil _ _) (sealsL_cons (.nil _ _) sealsL_nil)))
    have hlb : (((insS (flatS l)).length : Int) == 0) = false := by simpa using h0
    cases hb : dynB l with
    | true =>
      have e : rorS l = .mk 1 [] [] := by unfold rorS; rw [if_pos hall, if_neg h0]; unfold dynB at hb; rw [hb]; rfl
      rw [e]
      simp -implicitDefEqProofs [rorF, hlb, hb, zrow]
      exact seals_agg (sealsL_cons (.same _ (by simp)) (sealsL_cons (.nil _ _) (sealsL_cons (.nil _ _) sealsL_nil)))
    | false =>
      have e : rorS l = oneS (insS (flatS l)) := by unfold rorS; rw [if_pos hall, if_neg h0]; unfold dynB at hb; rw [hb]; rfl
      rw [e]
      rcases one_eq h0 with ⟨x, hx, ho⟩ | ⟨hlen, ho⟩
      · rw [ho]
        simp -implicitDefEqProofs [rorF, hb, zrow, hx, rowsS]
        exact .same _ (by simp)
      · rw [ho]
        have hl1 : (((insS (flatS l)).length : Int) == 1) = false := by simp; omega
        simp -implicitDefEqProofs [rorF, hlb, hb, zrow, hl1, rcT_eq]
        exact .same _ (by simp)
end Go.Proofs.Ythlebppdhipanaa

/-
  What is called: the program's.
-/
namespace Go.Proofs.Ythlebppdhipanaa
open Go.Ev
open Go.Aw (tiOf fieldsOf sB)

/-! ### By definition -/
def badAr (l : List Sh) (n : Nat) : Bool := l.any fun g => decide (g.kind = 7) && decide (g.kids.length ≠ n + 1)
def fineAt (l : List Sh) (x : Sh) (k : Nat) : Bool := l.all fun g => decide (g.kind = 1) || fitsG x (kid g k)
def missN (l : List Sh) : List Sh → Nat → List Int
  | [], _ => []
  | x :: r, k => if fineAt l x k then missN l r (k + 1) else (k : Int) :: missN l r (k + 1)
def callG (f : Sh) (args : List Sh) : Sh × List Int × Int :=
  if goodS f && args.all goodS then
    (if (flat1 f).all callable then
      (if badAr (flat1 f) args.length then (orS ((flat1 f).map resS), [], 30) else (orS ((flat1 f).map resS), missN (flat1 f) args 0, 0))
    else (.mk 0 [] [], [], 180))
  else (.mk 0 [] [], [], 2)
def callD (p : Sh × List Int × Int) : D := .tup [.agg (rowS p.1), .sq false 1 (intsD p.2.1), .lit (.int .i64 p.2.2)]

/-! ### Tables -/
theorem mrightF_ok (f : Bool) (l : List Sh) (hl : l.length ≤ 1000000) (hP : ∀ s ∈ l, limP s) : FnO Try.prog 50 [.sq f 3 (rowsS l)] (.ret (.lit (.bool (l.all goodS)))) := by
  cases f with
  | false => exact mright_ok l hl hP
  | true =>
    refine fnO_args (mright_ok l hl hP) rfl fun M i d d' v h1 h2 hR => ?_
    cases i with
    | succ i => simp at h1
    | zero =>
      simp at h1 h2
      subst h1 h2
      exact sq_any false hR
noncomputable def mrT : List D → Option (Prop × D) := ctr (fun p : Bool × List Sh => [.sq p.1 3 (rowsS p.2)]) (fun p => p.2.length ≤ 1000000 ∧ ∀ s ∈ p.2, limP s) (fun p => .lit (.bool (p.2.all goodS)))
theorem mrT_eq (f : Bool) (l : List Sh) : mrT [.sq f 3 (rowsS l)] = some (l.length ≤ 1000000 ∧ ∀ s ∈ l, limP s, .lit (.bool (l.all goodS))) :=
  ctr_enc (enc := fun p : Bool × List Sh => [D.sq p.1 3 (rowsS p.2)]) (fun a b h => by simp at h; exact Prod.ext h.1 (rowsS_inj _ _ h.2)) (f, l)
theorem mrT_eq1 (f : Bool) (s : Sh) : mrT [.sq f 3 [rowS s]] = some (limP s, .lit (.bool (goodS s))) := by
  have := mrT_eq f [s]
  simpa [rowsS] using this
theorem mrT_ok : ∀ xs p d, mrT xs = some (p, d) → p → FnO Try.prog 50 xs (.ret d) ∧ D.belL 0 xs = true ∧ D.bel 0 d = true :=
  ctr_ok fun p h => ⟨mrightF_ok p.1 p.2 h.1 h.2, by simp, by simp⟩
noncomputable def kiT : List D → Option (Prop × D) := ctr (fun s : Sh => [.agg (rowS s)]) (fun _ => True) (fun s => .sq false 3 (rowsS (flat1 s)))
theorem kiT_eq (s : Sh) : kiT [.agg (rowS s)] = some (True, .sq false 3 (rowsS (flat1 s))) := ctr_enc (fun a b h => by simp at h; exact rowS_inj _ _ h) s
theorem kiT_ok : ∀ xs p d, kiT xs = some (p, d) → p → FnO Try.prog 51 xs (.ret d) ∧ D.belL 0 xs = true ∧ D.bel 0 d = true :=
  ctr_ok fun s _ => ⟨kids_ok s, by simp, by simp⟩
noncomputable def rkT : List D → Option (Prop × D) := ctr (fun s : Sh => [.agg (rowS s)]) (fun _ => True) (fun s => .sq false 3 (rowsS (flat1 s)))
theorem rkT_eq (s : Sh) : rkT [.agg (rowS s)] = some (True, .sq false 3 (rowsS (flat1 s))) := ctr_enc (fun a b h => by simp at h; exact rowS_inj _ _ h) s
theorem rkT_ok : ∀ xs p d, rkT xs = some (p, d) → p → FnO Try.prog 53 xs (.ret d) ∧ D.belL 0 xs = true ∧ D.bel 0 d = true :=
  ctr_ok fun s _ => ⟨rkids_ok s, by simp, by simp⟩
noncomputable def reT : List D → Option (Prop × D) := ctr (fun l : List Sh => [.sq false 3 (rowsS l)]) (fun l => l.length ≤ 1000000 ∧ (∀ s ∈ l, rightS s = true) ∧ ∀ s ∈ l, s.kids.length ≤ 1000000) (fun l => resD l)
theorem reT_eq (l : List Sh) : reT [.sq false 3 (rowsS l)] = some (l.length ≤ 1000000 ∧ (∀ s ∈ l, rightS s = true) ∧ ∀ s ∈ l, s.kids.length ≤ 1000000, resD l) := ctr_enc (fun a b h => by simp at h; exact rowsS_inj _ _ h) l
theorem reT_ok : ∀ xs p d, reT xs = some (p, d) → p → FnO Try.prog 52 xs (.ret d) ∧ D.belL 0 xs = true ∧ D.bel 0 d = true :=
  ctr_ok fun l h => ⟨results_ok l h.1 h.2.1 h.2.2, by simp, by simp [resD]⟩
noncomputable def fgT : List D → Option (Prop × D) := sh2T (fun a b => limP a ∧ limP b ∧ sz a + sz b ≤ 2000) (fun a b => .lit (.bool (fitsG a b)))
theorem fgT_eq (a b : Sh) : fgT [.agg (rowS a), .agg (rowS b)] = some (limP a ∧ limP b ∧ sz a + sz b ≤ 2000, .lit (.bool (fitsG a b))) := sh2T_eq _ _ a b
theorem fgT_ok : ∀ xs p d, fgT xs = some (p, d) → p → FnO Try.prog 13 xs (.ret d) ∧ D.belL 0 xs = true ∧ D.bel 0 d = true := sh2T_ok (fun a b h => fitsT_ok a b h.1 h.2.1 h.2.2) (by simp)

theorem sz_res (g : Sh) : sz (resS g) ≤ sz g := by
  unfold resS
  split
  · exact Nat.le_refl _
  · by_cases h0 : g.kids.length = 0
    · have : kid g (g.kids.length - 1) = sh0 := by
        unfold kid
        simp [List.eq_nil_of_length_eq_zero h0]
      rw [this]
      have h1 := sz_eq g
      have h2 : sz sh0 = 1 := rfl
      omega
    · have h1 : g.kids.length - 1 < g.kids.length := by omega
      rw [kid_eq h1]
      have := sz_kid (List.getElem_mem h1)
      omega
theorem szs_map_res : ∀ l : List Sh, (∀ s ∈ l, rightS s = true) → szs (l.map resS) ≤ szs l
  | [], _ => by simp
  | g :: r, h => by
    have h1 := szs_map_res r fun s hs => h s (by simp [hs])
    have h2 := sz_res g
    rw [List.map_cons, szs_cons, szs_cons]
    omega

theorem missN_app (l : List Sh) : ∀ (a b : List Sh) (k : Nat), missN l (a ++ b) k = missN l a k ++ missN l b (k + a.length)
  | [], b, k => rfl
  | x :: a, b, k => by
    have ih := missN_app l a b (k + 1)
    rw [show k + 1 + a.length = k + (x :: a).length by simp; omega] at ih
    simp only [List.cons_append, missN, ih]
    split <;> rfl
theorem missN_len (l : List Sh) : ∀ (a : List Sh) (k : Nat), (missN l a k).length ≤ a.length
  | [], k => by simp [missN]
  | x :: a, k => by
    have ih := missN_len l a (k + 1)
    simp only [missN]
    split
    · simp; omega
    · simp; omega
theorem intsF_bel (n : Nat) (l : List Int) : D.belL n (intsD l).flatten = true := by
  induction l with
  | nil => rfl
  | cons x r ih =>
    simp only [intsD, List.map_cons, List.flatten_cons] at ih ⊢
    simpa using ih
theorem intsF_ren (f : Nat → Nat) (l : List Int) : D.renL f (intsD l).flatten = (intsD l).flatten := renL_free f _ (intsF_bel 0 l)
theorem intsF_sum (l : List Int) : (List.map List.length (intsD l)).sum = l.length * 1 := by
  induction l with
  | nil => rfl
  | cons x r ih =>
    simp only [intsD, List.map_cons, List.sum_cons, List.length_cons] at ih ⊢
    rw [ih]
    simp
    omega
theorem intsD_app (a b : List Int) : intsD (a ++ b) = intsD a ++ intsD b := by simp [intsD]
def caF2 (args l out : List Sh) (k : Nat) : S := S.mk 98 [(1, .sq false 3 (rowsS args)), (4, .pt 0 0), (7, .sq false 3 (rowsS l)), (8, .sq false 3 (rowsS out)), (12, .ow 1 (missN l (args.take k) 0).length), (59, .sq false 3 (rowsS args)), (60, .lit (.int .i64 args.length)), (61, .lit (.int .i64 k))]
  [(0, .cells 25 none zrow), (1, .cells 3 (some 1) (intsD (missN l (args.take k) 0)).flatten)] 2 [] none []

set_option maxHeartbeats 4000000 in
set_option maxRecDepth 20000 in
theorem call_ok (f : Sh) (args : List Sh) (pf : limP f) (hz : sz f ≤ 900) (pa : ∀ s ∈ args, limP s ∧ sz s ≤ 1000) (hl : args.length ≤ 900) : FnO Try.prog 25 [.agg (rowS f), .sq false 3 (rowsS args)] (.ret (callD (callG f args))) := by
  have ht := tbC_ok mrT_ok (tbC_ok kiT_ok (tbC_ok reT_ok (tbC_ok orT_ok (tbC_ok fgT_ok (tb0_ok Try.prog)))))
  refine fnO_of Try.func25 rfl (by kernel_rfl) (by simp [Try.ntmps25]) fun I => ?_
  refine w_seq (wx_ok ht fol _ _ _ (by kernel_rfl) ?_)
  simp -implicitDefEqProofs [Try.ntmps25]
  refine w_seq (w_seq (w_seqOk (seqOk_step rfl rfl rfl ?_)))
  simp -implicitDefEqProofs
  refine seqOk_cons rfl rfl (opS_bs ?_)
  simp -implicitDefEqProofs
  refine seqOk_W true ht (by simp) ?_
  have pa' : ∀ s ∈ args, limP s := fun s hs => (pa s hs).1
  cases hgf : goodS f with
  | false =>
    have e : callG f args = (.mk 0 [] [], [], 2) := by unfold callG; rw [hgf]; rfl
    rw [e]
    simp -implicitDefEqProofs [mrT_eq1, mrT_eq, hgf]
    refine ⟨pf, wx_ok ht fol _ _ _ (by kernel_rfl) ?_⟩
    simp -implicitDefEqProofs
    exact seals_tup (sealsL_cons (seals_agg (sealsL_cons (.same _ (by simp)) (sealsL_cons (.nil _ _) (sealsL_cons (.nil _ _) sealsL_nil)))) (sealsL_cons (.nil _ _) (sealsL_cons (.same _ (by simp)) sealsL_nil)))
  | true =>
  cases hga : args.all goodS with
  | false =>
    have e : callG f args = (.mk 0 [] [], [], 2) := by unfold callG; rw [hgf, hga]; rfl
    rw [e]
    simp -implicitDefEqProofs [mrT_eq1, mrT_eq, hgf, hga]
    refine ⟨pf, ⟨by omega, pa'⟩, wx_ok ht fol _ _ _ (by kernel_rfl) ?_⟩
    simp -implicitDefEqProofs
    exact seals_tup (sealsL_cons (seals_agg (sealsL_cons (.same _ (by simp)) (sealsL_cons (.nil _ _) (sealsL_cons (.nil _ _) sealsL_nil)))) (sealsL_cons (.nil _ _) (sealsL_cons (.same _ (by simp)) sealsL_nil)))
  | true =>
  simp -implicitDefEqProofs [mrT_eq1, mrT_eq, hgf, hga]
  refine ⟨pf, ⟨by omega, pa'⟩, wx_ok ht fol _ _ _ (by kernel_rfl) ?_⟩
  simp -implicitDefEqProofs
  have hfl : ∀ g ∈ flat1 f, limP g ∧ rightS g = true := fun g hg => flat_good (l := [f]) (fun s hs => by simp at hs; subst hs; exact hgf) (fun s hs => by simp at hs; subst hs; exact pf) g (by rw [flatS_one]; exact hg)
  have hfz : ∀ g ∈ flat1 f, sz g ≤ 900 := fun g hg => by
    have h1 := szs_flat1 f
    have h2 := szs_mem hg
    omega
  have hfs : szs (flat1 f) ≤ 900 := by have := szs_flat1 f; omega
  have hfn : (flat1 f).length ≤ 900 := by have := szs_len (flat1 f); omega
  have hE : callG f args = (if (flat1 f).all callable then
      (if badAr (flat1 f) args.length then (orS ((flat1 f).map resS), [], 30) else (orS ((flat1 f).map resS), missN (flat1 f) args 0, 0))
    else (.mk 0 [] [], [], 180)) := by unfold callG; rw [hgf, hga]; rfl
  obtain ⟨res, hres⟩ : ∃ res, res = callG f args := ⟨_, rfl⟩
  rw [← hres]
  rw [hE] at hres
  clear hE
  refine w_seq (wx_ok ht fol _ _ _ (by kernel_rfl) ?_)
  simp -implicitDefEqProofs [kiT_eq]
  generalize flat1 f = l at *
  refine w_weaken (s' := S.mk 98 [(1, .sq false 3 (rowsS args)), (4, .pt 0 0), (7, .sq false 3 (rowsS l))] [(0, .cells 25 none zrow)] 1 [] none []) (le_of [1] (by simp [zrow])) ?_
  have hRl : ∀ s ∈ l, rightS s = true := fun s hs => (hfl s hs).2
  have hPl : ∀ s ∈ l, limP s := fun s hs => (hfl s hs).1
  have hKl : ∀ s ∈ l, s.kids.length ≤ 900 := fun s hs => by
    have h1 := szs_len s.kids
    have h2 := sz_eq s
    have h3 := hfz s hs
    omega
  have hre : reT [.sq false 3 (rowsS l)] = some (True, resD l) := by
    rw [reT_eq]
    have : (l.length ≤ 1000000 ∧ (∀ s ∈ l, rightS s = true) ∧ ∀ s ∈ l, s.kids.length ≤ 1000000) = True := eq_true ⟨by omega, hRl, fun s hs => by have := hKl s hs; omega⟩
    rw [this]
  cases hc : l.all callable with
  | false =>
    have er : resD l = .tup [.sq false 3 (rowsS []), .lit (.bool false)] := by unfold resD; rw [hc]; rfl
    rw [er] at hre
    rw [if_neg (by rw [hc]; simp)] at hres
    rw [hres]
    refine wx_ok ht fol _ _ _ (by kernel_rfl) ?_
    simp -implicitDefEqProofs [hre, zrow]
    exact seals_tup (sealsL_cons (seals_agg (sealsL_cons (.same _ (by simp)) (sealsL_cons (.nil _ _) (sealsL_cons (.nil _ _) sealsL_nil)))) (sealsL_cons (.nil _ _) (sealsL_cons (.same _ (by simp)) sealsL_nil)))
  | true =>
  have er : resD l = .tup [.sq false 3 (rowsS (l.map resS)), .lit (.bool true)] := by unfold resD; rw [hc]; rfl
  rw [er] at hre
  rw [if_pos hc] at hres
  have hcl : ∀ g ∈ l, g.kind = 1 ∨ g.kind = 7 := fun g hg => by
    have := List.all_eq_true.1 hc g hg
    simpa [callable] using this
  have hoz := szs_map_res l hRl
  have hom : ∀ s ∈ l.map resS, limP s := fun s hs => by
    obtain ⟨g, hg, rfl⟩ := List.mem_map.1 hs
    rcases hcl g hg with h1 | h7
    · have : resS g = g := by unfold resS; rw [if_pos h1]
      rw [this]; exact hPl g hg
    · have h0 := right_fun (hRl g hg) h7
      have h1 : g.kids.length - 1 < g.kids.length := by omega
      have : resS g = g.kids[g.kids.length - 1] := by unfold resS; rw [if_neg (by omega), kid_eq h1]
      rw [this]; exact limP_kid (hPl g hg) (List.getElem_mem h1)
  have hor : orT [.sq false 3 (rowsS (l.map resS))] = some (True, .agg (rowS (orS (l.map resS)))) := by
    rw [orT_eq]
    have : (szs (l.map resS) ≤ 900000 ∧ ∀ s ∈ l.map resS, limP s) = True := eq_true ⟨by omega, hom⟩
    rw [this]
  generalize l.map resS = out at *
  refine w_seq (wx_ok ht fol _ _ _ (by kernel_rfl) ?_)
  simp -implicitDefEqProofs [hre]
  refine w_weaken (s' := S.mk 98 [(1, .sq false 3 (rowsS args)), (4, .pt 0 0), (7, .sq false 3 (rowsS l)), (8, .sq false 3 (rowsS out)), (9, .lit (.bool true))] [(0, .cells 25 none zrow)] 1 [] none []) (le_of [0] (by simp [zrow])) ?_
  refine w_seq (wx_ok ht fol _ _ _ (by kernel_rfl) ?_)
  simp -implicitDefEqProofs
  refine w_seq (wx_ok ht fol _ _ _ (by kernel_rfl) ?_)
  simp -implicitDefEqProofs
  have hwa : IntKind.i64.wrap ((args.length : Int) + 1) = (args.length : Int) + 1 := wrap64 (by omega) (by omega)
  refine w_loop (fun i : { i : Nat // i ≤ l.length ∧ badAr (l.take i) args.length = false } => S.mk 98 [(1, .sq false 3 (rowsS args)), (4, .pt 0 0), (7, .sq false 3 (rowsS l)), (8, .sq false 3 (rowsS out)), (38, .sq false 3 (rowsS l)), (39, .lit (.int .i64 l.length)), (40, .lit (.int .i64 i.1))] [(0, .cells 25 none zrow)] 1 [] none []) (fun i => l.length - i.1) ⟨0, Nat.zero_le _, rfl⟩ (le_of [0] (by simp [zrow])) fun ⟨i, hi, hbad⟩ => wx_ok ht fol _ _ _ (by kernel_rfl) ?_
  have hw : IntKind.i64.wrap ((i : Int) + 1) = (i : Int) + 1 := wrap64 (by omega) (by omega)
  by_cases hil : i < l.length
  · have hm : l[i] ∈ l := List.getElem_mem hil
    have ht1 : badAr (l.take (i + 1)) args.length = (decide (l[i].kind = 7) && decide (l[i].kids.length ≠ args.length + 1)) := by
      rw [List.take_succ_eq_append_getElem hil]
      unfold badAr at hbad ⊢
      rw [List.any_append, hbad]
      simp
    by_cases h7 : l[i].kind = 7
    · by_cases hk : l[i].kids.length = args.length + 1
      · have hk' : ((l[i].kids.length : Int) != (args.length : Int) + 1) = false := by simp; omega
        have hb2 : badAr (l.take (i + 1)) args.length = false := by rw [ht1]; simp [hk]
        simp -implicitDefEqProofs [hil, h7, hwa, hk', hw]
        exact ⟨i + 1, le_of [0] (by simp [zrow]), ⟨by omega, hb2⟩, by omega⟩
      · have hk' : ((l[i].kids.length : Int) != (args.length : Int) + 1) = true := by simp; omega
        have hb3 : badAr l args.length = true := by
          unfold badAr
          rw [List.any_eq_true]
          exact ⟨_, hm, by simp [h7, hk]⟩
        rw [if_pos hb3] at hres
        simp -implicitDefEqProofs [hil, h7, hwa, hk', hw, hor, hres]
        exact ⟨by simp [zrow], seals_tup (sealsL_cons (.same _ (by simp)) (sealsL_cons (.nil _ _) (sealsL_cons (.same _ (by simp)) sealsL_nil)))⟩
    · have h7b : (l[i].kind == 7) = false := by simpa using h7
      have hb2 : badAr (l.take (i + 1)) args.length = false := by rw [ht1]; simp [h7]
      simp -implicitDefEqProofs [hil, h7b, hw]
      exact ⟨i + 1, le_of [0] (by simp [zrow]), ⟨by omega, hb2⟩, by omega⟩
  · have : i = l.length := by omega
    subst this
    rw [List.take_length] at hbad
    rw [if_neg (by rw [hbad]; simp)] at hres
    have hk7 : ∀ g ∈ l, g.kind = 7 → g.kids.length = args.length + 1 := fun g hg h7 => by
      unfold badAr at hbad
      rw [List.any_eq_false] at hbad
      have := hbad g hg
      simpa [h7] using this
    simp -implicitDefEqProofs
    refine w_weaken (s' := S.mk 98 [(1, .sq false 3 (rowsS args)), (4, .pt 0 0), (7, .sq false 3 (rowsS l)), (8, .sq false 3 (rowsS out))] [(0, .cells 25 none zrow)] 1 [] none []) (le_of [0] (by simp [zrow])) ?_
    refine w_seq (wx_ok ht fol _ _ _ (by kernel_rfl) ?_)
    simp -implicitDefEqProofs
    refine w_seq (wx_ok ht fol _ _ _ (by kernel_rfl) ?_)
    simp -implicitDefEqProofs
    refine w_loop (fun k : { k : Nat // k ≤ args.length } => caF2 args l out k.1) (fun k => args.length - k.1) ⟨0, Nat.zero_le _⟩ ((S.le_nil 12 3 1 rfl).trans (le_of [0, 1] (by simp [caF2, zrow, missN, intsD]))) fun ⟨k, hk⟩ => wx_ok ht fol _ _ _ (by kernel_rfl) ?_
    have hwk : IntKind.i64.wrap ((k : Int) + 1) = (k : Int) + 1 := wrap64 (by omega) (by omega)
    have hml := missN_len l (args.take k) 0
    rw [List.length_take] at hml
    by_cases hkl : k < args.length
    · have hmk : args[k] ∈ args := List.getElem_mem hkl
      have hst : missN l (args.take (k + 1)) 0 = missN l (args.take k) 0 ++ (if fineAt l args[k] k then [] else [(k : Int)]) := by
        rw [List.take_succ_eq_append_getElem hkl, missN_app]
        have : 0 + (args.take k).length = k := by rw [List.length_take]; omega
        rw [this]
        simp only [missN]
      obtain ⟨px, zx⟩ := pa _ hmk
      have hgx : goodS args[k] = true := List.all_eq_true.1 hga _ hmk
      simp -implicitDefEqProofs [caF2, hkl]
      generalize missN l (args.take k) 0 = m at *
      generalize hx : args[k] = x at *
      refine w_loop (fun i : { i : Nat // i ≤ l.length } => S.mk 98 [(1, .sq false 3 (rowsS args)), (4, .pt 0 0), (7, .sq false 3 (rowsS l)), (8, .sq false 3 (rowsS out)), (12, .ow 1 m.length), (13, .lit (.int .i64 k)), (14, .pt 2 0), (15, .lit (.bool (fineAt (l.take i.1) x k))), (59, .sq false 3 (rowsS args)), (60, .lit (.int .i64 args.length)), (61, .lit (.int .i64 k)), (66, .sq false 3 (rowsS l)), (67, .lit (.int .i64 l.length)), (68, .lit (.int .i64 i.1))]
        [(0, .cells 25 none zrow), (1, .cells 3 (some 1) (intsD m).flatten), (2, .cells 25 none (rowS x))] 3 [] none []) (fun i => l.length - i.1) ⟨0, Nat.zero_le _⟩ (le_of [0, 1, 2] (by simp [zrow, fineAt, intsF_bel, intsF_ren])) fun ⟨i, hi⟩ => wx_ok ht fol _ _ _ (by kernel_rfl) ?_
      have hw : IntKind.i64.wrap ((i : Int) + 1) = (i : Int) + 1 := wrap64 (by omega) (by omega)
      by_cases hil : i < l.length
      · have hm : l[i] ∈ l := List.getElem_mem hil
        have hf1 : fineAt (l.take (i + 1)) x k = (fineAt (l.take i) x k && (decide (l[i].kind = 1) || fitsG x (kid l[i] k))) := by
          rw [List.take_succ_eq_append_getElem hil]
          simp only [fineAt, List.all_append, List.all_cons, List.all_nil, Bool.and_true]
        cases hfi : fineAt (l.take i) x k with
        | false =>
          rw [hfi, Bool.false_and] at hf1
          simp -implicitDefEqProofs [hil, hw]
          exact ⟨i + 1, le_of [0, 1, 2] (by simp [zrow, hf1, intsF_bel, intsF_ren]), by omega, by omega⟩
        | true =>
          rw [hfi, Bool.true_and] at hf1
          by_cases h1 : l[i].kind = 1
          · have hf2 : fineAt (l.take (i + 1)) x k = true := by rw [hf1]; simp [h1]
            simp -implicitDefEqProofs [hil, hw, h1]
            exact ⟨i + 1, le_of [0, 1, 2] (by simp [zrow, hf2, intsF_bel, intsF_ren]), by omega, by omega⟩
          · have h1b : (l[i].kind == 1) = false := by simpa using h1
            have h7 : l[i].kind = 7 := by rcases hcl _ hm with h | h <;> omega
            have hkk := hk7 _ hm h7
            have hkl2 : k < l[i].kids.length := by omega
            have hf2 : fineAt (l.take (i + 1)) x k = fitsG x l[i].kids[k] := by rw [hf1, kid_eq hkl2]; simp [h1]
            have hmk2 : l[i].kids[k] ∈ l[i].kids := List.getElem_mem hkl2
            have hpk := limP_kid (hPl _ hm) hmk2
            have hzk := sz_kid hmk2
            have hzi := hfz _ hm
            simp -implicitDefEqProofs [hil, hw, h1b, hkl2, fgT_eq]
            exact ⟨⟨px, hpk, by omega⟩, i + 1, le_of [0, 1, 2] (by simp [zrow, hf2, intsF_bel, intsF_ren]), by omega, by omega⟩
      · have : i = l.length := by omega
        subst this
        rw [List.take_length]
        cases hfi : fineAt l x k with
        | true =>
          rw [hfi, if_pos rfl, List.append_nil] at hst
          simp -implicitDefEqProofs [hwk]
          exact ⟨k + 1, le_of [0, 1] (by simp [caF2, zrow, hst, intsF_bel, intsF_ren]), by omega, by omega⟩
        | false =>
          rw [hfi, if_neg (by simp)] at hst
          have hms := intsF_sum m
          simp -implicitDefEqProofs [hwk, hms]
          refine ⟨⟨by omega, by omega⟩, k + 1, le_of [0, 4] ?_, by omega, by omega⟩
          have e1 : (intsD (m ++ [(k : Int)])).flatten = (intsD m).flatten ++ [D.lit (.int .i64 k)] := by rw [intsD_app, List.flatten_append]; rfl
          simp [caF2, zrow, hst, intsF_bel, intsF_ren, e1]
    · have : k = args.length := by omega
      subst this
      rw [List.take_length] at *
      simp -implicitDefEqProofs [caF2]
      refine wx_ok ht fol _ _ _ (by kernel_rfl) ?_
      simp -implicitDefEqProofs [hor]
      rw [hres]
      exact ⟨by simp [zrow], seals_tup (sealsL_cons (.same _ (by simp)) (sealsL_cons (seals_ow (ty := 3) (op := some 1) (rows := intsD (missN l args 0)) rfl (by simp) (intsD_rows _) (intsD_bel _ _)) (sealsL_cons (.same _ (by simp)) sealsL_nil)))⟩
end Go.Proofs.Ythlebppdhipanaa
