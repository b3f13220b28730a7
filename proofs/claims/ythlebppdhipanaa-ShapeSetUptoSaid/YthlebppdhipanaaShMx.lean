/-
  What is called: small functions.
-/
import Derived.Test.YthlebppdhipanaaShZy
import Derived.Test.YthlebppdhipanaaSymb
set_option linter.all false
namespace Go.Proofs.Ythlebppdhipanaa
open Go.Ev
open Go.Aw (tiOf fieldsOf sB)

/-! ### Are all right? -/
/-! ### Those of one of some -/
/-! ### What functions tell -/
def resS (g : Sh) : Sh := if g.kind = 1 then g else kid g (g.kids.length - 1)
def callable (g : Sh) : Bool := decide (g.kind = 1) || decide (g.kind = 7)
def resD (l : List Sh) : D := .tup [.sq false 3 (rowsS (if l.all callable then l.map resS else [])), .lit (.bool (l.all callable))]
def reF (l : List Sh) (i : Nat) : S := S.mk 35 [(2, .ow 0 i), (3, .lit (.bool false)), (6, .sq false 3 (rowsS l)), (7, .lit (.int .i64 l.length)), (8, .lit (.int .i64 i))] [(0, .cells 25 (some 3) (rowsS ((l.map resS).take i)).flatten)] 1 [] none []

set_option maxHeartbeats 4000000 in
set_option maxRecDepth 20000 in
theorem results_ok (l : List Sh) (hl : l.length ≤ 1000000) (hR : ∀ s ∈ l, rightS s = true) (hk : ∀ s ∈ l, s.kids.length ≤ 1000000) : FnO Try.prog 52 [.sq false 3 (rowsS l)] (.ret (resD l)) := by
  have ht := tb0_ok Try.prog
  refine fnO_wx ht fol Try.func52 rfl (by kernel_rfl) (by simp [Try.ntmps52]) (by kernel_rfl) fun I => ?_
  simp -implicitDefEqProofs [Try.ntmps52]
  refine w_loop (fun i : { i : Nat // i ≤ l.length ∧ ∀ j (h : j < l.length), j < i → callable l[j] = true } => reF l i.1) (fun i => l.length - i.1) ⟨0, Nat.zero_le _, fun j _ h => by omega⟩ ((S.le_nil 2 25 3 rfl).trans (le_of [0] (by simp [reF, rowsS]))) fun ⟨i, hi, hall⟩ => wx_ok ht fol _ _ _ (by kernel_rfl) ?_
  have hw : IntKind.i64.wrap ((i : Int) + 1) = (i : Int) + 1 := wrap64 (by omega) (by omega)
  have hrs := rowsS_flat ((l.map resS).take i)
  have hml : ((l.map resS).take i).length = i := by simp; omega
  rw [hml] at hrs
  by_cases hil : i < l.length
  · have hm : l[i] ∈ l := List.getElem_mem hil
    have ha2 : callable l[i] = true → ∀ j (h : j < l.length), j < i + 1 → callable l[j] = true := fun hc j hj hlt => by
      by_cases h9 : j = i
      · subst h9; exact hc
      · exact hall j hj (by omega)
    have et : (l.map resS).take (i + 1) = (l.map resS).take i ++ [resS l[i]] := by rw [List.take_succ_eq_append_getElem (by simpa using hil)]; simp
    by_cases h1 : l[i].kind = 1
    · have hres : resS l[i] = l[i] := by unfold resS; rw [if_pos h1]
      simp -implicitDefEqProofs [reF, hil, h1, hw]
      refine ⟨⟨by omega, by omega, by omega⟩, i + 1, le_of [3] ?_, ⟨by omega, ha2 (by simp [callable, h1])⟩, by omega⟩
      simp -implicitDefEqProofs [et, hres, rowsS_app, rowsS, rowsF_bel, rowsF_ren]
    · have h1b : (l[i].kind == 1) = false := by simpa using h1
      by_cases h7 : l[i].kind = 7
      · have h0 := right_fun (hR _ hm) h7
        have hkm := hk _ hm
        have hres : resS l[i] = l[i].kids[l[i].kids.length - 1] := by unfold resS; rw [if_neg h1, kid_eq (by omega)]
        have hw3 : IntKind.i64.wrap ((l[i].kids.length : Int) - 1) = ((l[i].kids.length - 1 : Nat) : Int) := by rw [wrap64 (by omega) (by omega)]; omega
        have hlt : l[i].kids.length - 1 < l[i].kids.length := by omega
        have hlt' : ((l[i].kids.length - 1 : Nat) : Int) < (l[i].kids.length : Int) := by omega
        simp -implicitDefEqProofs [reF, hil, h1b, h7, hw, hw3, hlt, hlt']
        refine ⟨⟨by omega, by omega, by omega⟩, i + 1, le_of [3] ?_, ⟨by omega, ha2 (by simp [callable, h7])⟩, by omega⟩
        simp -implicitDefEqProofs [et, hres, rowsS_app, rowsS, rowsF_bel, rowsF_ren]
      · have h7b : (l[i].kind == 7) = false := by simpa using h7
        simp -implicitDefEqProofs [reF, hil, h1b, h7b]
        have : l.all callable = false := by
          rw [List.all_eq_false]
          exact ⟨_, hm, by simp [callable, h1, h7]⟩
        rw [resD, this]
        exact seals_tup (sealsL_cons (.nil _ _) (sealsL_cons (.same _ (by simp)) sealsL_nil))
  · have : i = l.length := by omega
    subst this
    simp -implicitDefEqProofs [reF]
    have : l.all callable = true := by
      rw [List.all_eq_true]
      intro x hx
      obtain ⟨j, hj, rfl⟩ := List.mem_iff_getElem.1 hx
      exact hall j hj hj
    rw [resD, this, if_pos rfl]
    exact seals_tup (sealsL_cons (seals_ow (ty := 25) (op := some 3) (rows := rowsS (l.map resS)) (by simp [List.take_of_length_le]) (by simp) (rowsS_rows _) (by simp)) (sealsL_cons (.same _ (by simp)) sealsL_nil))
end Go.Proofs.Ythlebppdhipanaa

/-
  What is called: the same shapes, the same numbers; the document's capped, put.
-/
namespace Go.Proofs.Ythlebppdhipanaa
open Go.Ev
open Go.Aw (tiOf fieldsOf sB)

/-! ### The same shape -/
noncomputable def smT (q : Sh → Prop) : List D → Option (Prop × D) := ctr (fun s : Sh => [.agg (rowS s), .agg (rowS s)]) q (fun _ => .lit (.bool true))
theorem smT_eq (q : Sh → Prop) (s : Sh) : smT q [.agg (rowS s), .agg (rowS s)] = some (q s, .lit (.bool true)) := ctr_enc (fun a b h => by simp at h; exact rowS_inj _ _ h) s
theorem smT_ok {q : Sh → Prop} (h : ∀ s, q s → FnO Try.prog 27 [.agg (rowS s), .agg (rowS s)] (.ret (.lit (.bool true)))) : ∀ xs p d, smT q xs = some (p, d) → p → FnO Try.prog 27 xs (.ret d) ∧ D.belL 0 xs = true ∧ D.bel 0 d = true :=
  ctr_ok fun s hs => ⟨h s hs, by simp, by simp⟩
def smS (a : Sh) (tm : List (Nat × D)) : S := S.mk 67 ([(2, .pt 0 0), (3, .pt 1 0), (4, .lit (.bool false))] ++ tm) [(0, .cells 25 none (rowS a)), (1, .cells 25 none (rowS a))] 2 [] none []

set_option maxHeartbeats 4000000 in
set_option maxRecDepth 20000 in
theorem same_ok : ∀ (N : Nat) (a : Sh), sz a ≤ N → limP a → FnO Try.prog 27 [.agg (rowS a), .agg (rowS a)] (.ret (.lit (.bool true)))
  | 0, a, h, _ => by have := sz_pos a; omega
  | N + 1, a, hs, la => by
    have ht := tbC_ok (smT_ok (q := fun s => s ∈ a.kids) (fun s h => same_ok N s (by have := sz_kid h; omega) (limP_kid la h))) (tb0_ok Try.prog)
    obtain ⟨na1, na2, _⟩ := lim_len la
    refine fnO_wx ht fol Try.func27 rfl (by kernel_rfl) (by simp [Try.ntmps27]) (by kernel_rfl) fun I => ?_
    simp -implicitDefEqProofs [Try.ntmps27]
    refine w_loop (fun i : { i : Nat // i ≤ a.names.length } => smS a [(5, .lit (.int .i64 i.1))]) (fun i => a.names.length - i.1) ⟨0, Nat.zero_le _⟩ (le_of [0, 1] (by simp [smS])) fun ⟨i, hi⟩ => wx_ok ht fol _ _ _ (by kernel_rfl) ?_
    have hw : IntKind.i64.wrap ((i : Int) + 1) = (i : Int) + 1 := wrap64 (by omega) (by omega)
    by_cases hil : i < a.names.length
    · simp -implicitDefEqProofs [smS, hil, hw]
      exact ⟨i + 1, le_of [0, 1] (by simp), by omega, by omega⟩
    · have : i = a.names.length := by omega
      subst this
      simp -implicitDefEqProofs [smS]
      refine w_loop (fun i : { i : Nat // i ≤ a.kids.length } => smS a [(6, .lit (.int .i64 i.1))]) (fun i => a.kids.length - i.1) ⟨0, Nat.zero_le _⟩ (le_of [0, 1] (by simp [smS])) fun ⟨i, hi⟩ => wx_ok ht fol _ _ _ (by kernel_rfl) ?_
      have hw : IntKind.i64.wrap ((i : Int) + 1) = (i : Int) + 1 := wrap64 (by omega) (by omega)
      by_cases hil : i < a.kids.length
      · have hm : a.kids[i] ∈ a.kids := List.getElem_mem hil
        simp -implicitDefEqProofs [smS, hil, hw, smT_eq, hm]
        exact ⟨i + 1, le_of [0, 1] (by simp), by omega, by omega⟩
      · have : i = a.kids.length := by omega
        subst this
        simp -implicitDefEqProofs [smS]
        exact .same _ (by simp)

/-! ### The same numbers -/
def intsD (l : List Int) : List (List D) := l.map fun i => [.lit (.int .i64 i)]
@[simp] theorem intsD_length (l : List Int) : (intsD l).length = l.length := by simp [intsD]
end Go.Proofs.Ythlebppdhipanaa

/-
  What is called: the same numbers; the document's capped, put.
-/
namespace Go.Proofs.Ythlebppdhipanaa
open Go.Ev
open Go.Aw (tiOf fieldsOf sB)

def siS (l : List Int) (i : Nat) : S := S.mk 26 [(0, .sq false 1 (intsD l)), (1, .sq false 1 (intsD l)), (4, .lit (.bool false)), (5, .lit (.int .i64 i))] [] 0 [] none []
@[simp] theorem ti40 : tiOf Try.prog 40 = some ⟨1, 24, (.sl 3), [.zl]⟩ := by kernel_rfl
/-! ### put -/
def putS : List Sh → Sh → List Sh
  | [], s => [s]
  | x :: r, s => if ltB (txt x) (txt s) then x :: putS r s else if txt x = txt s then x :: r else s :: x :: r
/-- Where it would stand. -/
def putN (l : List Sh) (s : Sh) (i : Nat) : Prop := (∀ j (h : j < l.length), j < i → ltB (txt l[j]) (txt s) = true) ∧ ∀ h : i < l.length, ltB (txt l[i]) (txt s) = false
noncomputable def rtT : List D → Option (Prop × D) := shT (fun n => limP n ∧ rightS n = true) (fun n => .lit (.string (txt n)))
end Go.Proofs.Ythlebppdhipanaa

/-
  The document's one of some: by definition, and that it is the program's (plain).
-/
namespace Go.Proofs.Ythlebppdhipanaa
open Go.Ev
open Go.Aw (tiOf fieldsOf sB)

/-! ### Put one by one -/
def insS (l : List Sh) : List Sh := l.foldl putS []
/-! ### In order -/
def ltS (a b : Sh) : Prop := sB (txt a) < sB (txt b)
theorem ltS_trans {a b c : Sh} (h : ltS a b) (k : ltS b c) : ltS a c := List.lt_trans h k
theorem ltS_irr (a : Sh) : ¬ ltS a a := List.lt_irrefl _
theorem ltS_or {a b : Sh} (h : ltB (txt a) (txt b) = false) (hn : txt a ≠ txt b) : ltS b a := by
  have h1 : ¬ sB (txt a) < sB (txt b) := fun k => by rw [(ltB_iff _ _).2 k] at h; cases h
  rcases List.le_iff_lt_or_eq.1 (List.not_lt.1 h1) with h2 | h2
  · exact h2
  · exact absurd (sB_inj h2).symm hn
theorem putS_spec : ∀ {l : List Sh} {s : Sh}, l.Pairwise ltS → (∀ x ∈ l, rightS x = true) → rightS s = true → (putS l s).Pairwise ltS ∧ ∀ x, x ∈ putS l s ↔ x ∈ l ∨ x = s
  | [], s, _, _, _ => by simp [putS]
  | y :: r, s, h, hr, hs => by
    obtain ⟨h1, h2⟩ := List.pairwise_cons.1 h
    simp only [putS]
    split
    · rename_i hlt
      obtain ⟨g1, g2⟩ := putS_spec h2 (fun x hx => hr x (by simp [hx])) hs
      refine ⟨List.pairwise_cons.2 ⟨fun x hx => ?_, g1⟩, fun x => ?_⟩
      · rcases (g2 x).1 hx with hx | rfl
        · exact h1 x hx
        · exact (ltB_iff _ _).1 hlt
      · simp only [List.mem_cons, g2 x]
        constructor
        · rintro (h | h | h) <;> simp [h]
        · rintro ((h | h) | h) <;> simp [h]
    · rename_i hlt
      split
      · rename_i he
        have : y = s := text_inj (hr y (by simp)) hs he
        subst this
        refine ⟨h, fun x => ?_⟩
        simp only [List.mem_cons]
        constructor
        · exact .inl
        · rintro (h | h)
          · exact h
          · exact .inl h
      · rename_i he
        have hsy : ltS s y := ltS_or (by simpa using hlt) he
        refine ⟨List.pairwise_cons.2 ⟨fun x hx => ?_, h⟩, fun x => ?_⟩
        · rcases List.mem_cons.1 hx with rfl | hx
          · exact hsy
          · exact ltS_trans hsy (h1 x hx)
        · simp only [List.mem_cons]
          constructor
          · rintro (h | h | h) <;> simp [h]
          · rintro ((h | h) | h) <;> simp [h]
theorem foldP_spec : ∀ (r l : List Sh), l.Pairwise ltS → (∀ x ∈ l, rightS x = true) → (∀ x ∈ r, rightS x = true) → (r.foldl putS l).Pairwise ltS ∧ ∀ x, x ∈ r.foldl putS l ↔ x ∈ l ∨ x ∈ r
  | [], l, h, _, _ => ⟨h, fun x => by simp⟩
  | s :: r, l, h, hl, hr => by
    obtain ⟨g1, g2⟩ := putS_spec h hl (hr s (by simp))
    obtain ⟨k1, k2⟩ := foldP_spec r (putS l s) g1 (fun x hx => by
      rcases (g2 x).1 hx with hx | rfl
      · exact hl x hx
      · exact hr x (by simp)) (fun x hx => hr x (by simp [hx]))
    refine ⟨k1, fun x => ?_⟩
    rw [List.foldl_cons, k2 x, g2 x]
    simp only [List.mem_cons]
    constructor
    · rintro ((h | h) | h) <;> simp [h]
    · rintro (h | h | h) <;> simp [h]
theorem order_eq : ∀ {l r : List Sh}, l.Pairwise ltS → r.Pairwise ltS → (∀ x, x ∈ l ↔ x ∈ r) → l = r
  | [], [], _, _, _ => rfl
  | [], y :: r, _, _, h => by have := (h y).2 (by simp); simp at this
  | x :: l, [], _, _, h => by have := (h x).1 (by simp); simp at this
  | x :: l, y :: r, h1, h2, h => by
    obtain ⟨a1, a2⟩ := List.pairwise_cons.1 h1
    obtain ⟨b1, b2⟩ := List.pairwise_cons.1 h2
    have hxy : x = y := by
      rcases List.mem_cons.1 ((h x).1 (by simp)) with e | e
      · exact e
      · rcases List.mem_cons.1 ((h y).2 (by simp)) with e' | e'
        · exact e'.symm
        · exact absurd (ltS_trans (a1 y e') (b1 x e)) (ltS_irr x)
    subst hxy
    rw [order_eq a2 b2 fun z => ?_]
    constructor
    · intro hz
      rcases List.mem_cons.1 ((h z).1 (by simp [hz])) with e | e
      · subst e; exact absurd (a1 z hz) (ltS_irr z)
      · exact e
    · intro hz
      rcases List.mem_cons.1 ((h z).2 (by simp [hz])) with e | e
      · subst e; exact absurd (b1 z hz) (ltS_irr z)
      · exact e
theorem ins_out {fl : List Sh} (hr : ∀ s ∈ fl, rightS s = true) : insS fl = outS fl := by
  obtain ⟨g1, g2⟩ := foldP_spec fl [] List.Pairwise.nil (fun x hx => by simp at hx) hr
  refine order_eq g1 ?_ fun x => ?_
  · have := rising_pair (out_rising hr)
    rw [List.pairwise_map] at this
    exact this
  · rw [out_mem hr x]
    have := g2 x
    simpa [insS] using this

/-! ### One of some, the document's -/
def rorS (l : List Sh) : Sh := if l.all goodS then (if insS (flatS l) = [] then .mk 0 [] [] else if l.any (fun s => decide (s.kind = 1)) then .mk 1 [] [] else oneS (insS (flatS l))) else .mk 0 [] []
end Go.Proofs.Ythlebppdhipanaa

/-
  One of some: in which order, how often, by how many steps (plain).
-/
namespace Go.Proofs.Ythlebppdhipanaa
open Go.Ev
open Go.Aw (tiOf fieldsOf sB)

theorem flat_right {l : List Sh} (hg : ∀ s ∈ l, goodS s = true) : ∀ x ∈ flatS l, rightS x = true := fun x hx => by
  obtain ⟨s, hs, h⟩ := flat_mem hx
  rcases h with ⟨_, hk⟩ | ⟨_, rfl⟩
  · exact right_kids (good_right (hg s hs)) x hk
  · exact good_right (hg _ hs)
theorem or_eq {l : List Sh} (hne : l ≠ []) (hg : ∀ s ∈ l, goodS s = true) : orS l = oneS (outS (flS l)) := by
  have hle : l.isEmpty = false := by simpa using hne
  have hall : l.all goodS = true := by simpa using hg
  rw [orS, hall, hle]; rfl
theorem fl_dyn {l : List Sh} (hg : ∀ s ∈ l, goodS s = true) (hd : ∃ s ∈ l, s.kind = 1) : flS l = [.mk 1 [] []] := by
  unfold flS
  cases hf : l.find? fun s => decide (s.kind = 1) with
  | none =>
    rw [List.find?_eq_none] at hf
    obtain ⟨s, hs, h1⟩ := hd
    exact absurd h1 (by simpa using hf s hs)
  | some s =>
    have hm := List.mem_of_find?_eq_some hf
    have hk : s.kind = 1 := by simpa using List.find?_some hf
    rw [dyn_eq (good_right (hg s hm)) hk]
theorem fl_none {l : List Sh} (hd : ∀ s ∈ l, s.kind ≠ 1) : flS l = flatS l := by
  unfold flS
  have : (l.find? fun s => decide (s.kind = 1)) = none := by rw [List.find?_eq_none]; intro s hs; simpa using hd s hs
  rw [this]
theorem out_congr {a b : List Sh} (ha : ∀ s ∈ a, rightS s = true) (hb : ∀ s ∈ b, rightS s = true) (h : ∀ x, x ∈ a ↔ x ∈ b) : outS a = outS b := by
  have pr : ∀ {c : List Sh}, (∀ s ∈ c, rightS s = true) → (outS c).Pairwise ltS := fun hc => by
    have := rising_pair (out_rising hc)
    rw [List.pairwise_map] at this
    exact this
  refine order_eq (pr ha) (pr hb) fun x => ?_
  rw [out_mem ha x, out_mem hb x]
  exact h x
theorem or_congr {l r : List Sh} (hl : l ≠ []) (hr : r ≠ []) (gl : ∀ s ∈ l, goodS s = true) (gr : ∀ s ∈ r, goodS s = true) (hd : (∃ s ∈ l, s.kind = 1) ↔ ∃ s ∈ r, s.kind = 1) (hm : (∀ s ∈ l, s.kind ≠ 1) → ∀ x, x ∈ flatS l ↔ x ∈ flatS r) : orS l = orS r := by
  rw [or_eq hl gl, or_eq hr gr]
  by_cases h1 : ∃ s ∈ l, s.kind = 1
  · rw [fl_dyn gl h1, fl_dyn gr (hd.1 h1)]
  · have h2 : ∀ s ∈ l, s.kind ≠ 1 := fun s hs h => h1 ⟨s, hs, h⟩
    have h3 : ∀ s ∈ r, s.kind ≠ 1 := fun s hs h => h1 (hd.2 ⟨s, hs, h⟩)
    rw [fl_none h2, fl_none h3, out_congr (flat_right gl) (flat_right gr) (hm h2)]
theorem or_same {l r : List Sh} (hl : l ≠ []) (hr : r ≠ []) (gl : ∀ s ∈ l, goodS s = true) (h : ∀ x, x ∈ r ↔ x ∈ l) : orS l = orS r := by
  refine or_congr hl hr gl (fun s hs => gl s ((h s).1 hs)) ⟨fun ⟨s, hs, h1⟩ => ⟨s, (h s).2 hs, h1⟩, fun ⟨s, hs, h1⟩ => ⟨s, (h s).1 hs, h1⟩⟩ fun _ x => ?_
  simp only [flatS, List.mem_flatMap]
  exact ⟨fun ⟨s, hs, h1⟩ => ⟨s, (h s).2 hs, h1⟩, fun ⟨s, hs, h1⟩ => ⟨s, (h s).1 hs, h1⟩⟩

/-- What is known of one of few. -/
theorem or_flat {l : List Sh} (hne : l ≠ []) (hg : ∀ s ∈ l, goodS s = true) (hz : szs l + 1 ≤ 512) : goodS (orS l) = true ∧ ((orS l).kind = 1 ↔ ∃ s ∈ l, s.kind = 1) ∧ ((∀ s ∈ l, s.kind ≠ 1) → ∀ x, x ∈ flat1 (orS l) ↔ x ∈ flatS l) := by
  rcases or_cases hne hg hz with ⟨h1, h2⟩ | ⟨h1, out, h2, _, _, h3, h4, h5, h6⟩
  · refine ⟨by rw [h2]; rfl, ⟨fun _ => h1, fun _ => by rw [h2]; rfl⟩, fun h => ?_⟩
    obtain ⟨s, hs, hk⟩ := h1
    exact absurd hk (h s hs)
  · refine ⟨h3, ⟨fun h => absurd h h4, fun ⟨s, hs, hk⟩ => absurd hk (h1 s hs)⟩, fun _ x => ?_⟩
    rw [← h2 x]
    rcases h6 with ⟨y, rfl, h7⟩ | h7
    · rw [h7]
      have := (h5 y (by simp)).2.2
      unfold flat1
      rw [if_neg this]
    · rw [h7]
      have : flat1 (.mk 8 [] out) = out := rfl
      rw [this]
theorem or_two {l : List Sh} (k : Nat) (h0 : 0 < k) (hk : k < l.length) (hg : ∀ s ∈ l, goodS s = true) (hz : szs l + 1 ≤ 512) : orS l = orS [orS (l.take k), orS (l.drop k)] := by
  have hne : l ≠ [] := fun h => by rw [h] at hk; simp at hk
  have n1 : l.take k ≠ [] := fun h => by have := congrArg List.length h; rw [List.length_take] at this; simp only [List.length_nil] at this; omega
  have n2 : l.drop k ≠ [] := fun h => by have := congrArg List.length h; rw [List.length_drop] at this; simp only [List.length_nil] at this; omega
  have g1 : ∀ s ∈ l.take k, goodS s = true := fun s hs => hg s (List.mem_of_mem_take hs)
  have g2 : ∀ s ∈ l.drop k, goodS s = true := fun s hs => hg s (List.mem_of_mem_drop hs)
  have hs := szs_app (l.take k) (l.drop k)
  rw [List.take_append_drop] at hs
  obtain ⟨a1, a2, a3⟩ := or_flat n1 g1 (by omega)
  obtain ⟨b1, b2, b3⟩ := or_flat n2 g2 (by omega)
  have hml : ∀ s, s ∈ l ↔ s ∈ l.take k ∨ s ∈ l.drop k := fun s => by rw [← List.mem_append, List.take_append_drop]
  refine or_congr hne (by simp) hg (fun s hs => by simp at hs; rcases hs with rfl | rfl <;> assumption) ⟨fun ⟨s, hs, h1⟩ => ?_, fun ⟨s, hs, h1⟩ => ?_⟩ fun hd x => ?_
  · rcases (hml s).1 hs with h | h
    · exact ⟨_, by simp, a2.2 ⟨s, h, h1⟩⟩
    · exact ⟨orS (l.drop k), by simp, b2.2 ⟨s, h, h1⟩⟩
  · simp at hs
    rcases hs with rfl | rfl
    · obtain ⟨s, h, h2⟩ := a2.1 h1
      exact ⟨s, (hml s).2 (.inl h), h2⟩
    · obtain ⟨s, h, h2⟩ := b2.1 h1
      exact ⟨s, (hml s).2 (.inr h), h2⟩
  · have e1 : flatS [orS (l.take k), orS (l.drop k)] = flat1 (orS (l.take k)) ++ flat1 (orS (l.drop k)) := by simp [flatS]
    have e2 : flatS l = flatS (l.take k) ++ flatS (l.drop k) := by rw [← flatS_app, List.take_append_drop]
    rw [e1, e2, List.mem_append, List.mem_append, a3 (fun s hs => hd s (List.mem_of_mem_take hs)) x, b3 (fun s hs => hd s (List.mem_of_mem_drop hs)) x]
theorem or_again {l : List Sh} (hne : l ≠ []) (hg : ∀ s ∈ l, goodS s = true) (hz : szs l + 1 ≤ 512) : orS l = orS [orS l] := by
  obtain ⟨a1, a2, a3⟩ := or_flat hne hg hz
  refine or_congr hne (by simp) hg (fun s hs => by simp at hs; subst hs; exact a1) ⟨fun h => ⟨_, by simp, a2.2 h⟩, fun ⟨s, hs, h1⟩ => by simp at hs; subst hs; exact a2.1 h1⟩ fun hd x => ?_
  rw [flatS_one]
  exact (a3 hd x).symm
theorem or_turn {l : List Sh} (k : Nat) (hk : k < l.length) (hg : ∀ s ∈ l, goodS s = true) : orS l = orS (l.drop k ++ l.take k ++ [l[k]]) := by
  have hne : l ≠ [] := fun h => by rw [h] at hk; simp at hk
  refine or_same hne (List.append_ne_nil_of_right_ne_nil _ (by simp)) hg fun x => ?_
  have hml : x ∈ l ↔ x ∈ l.take k ∨ x ∈ l.drop k := by rw [← List.mem_append, List.take_append_drop]
  simp only [List.mem_append, List.mem_singleton]
  constructor
  · rintro ((h | h) | rfl)
    · exact hml.2 (.inr h)
    · exact hml.2 (.inl h)
    · exact List.getElem_mem hk
  · intro h
    rcases hml.1 h with h | h
    · exact .inl (.inr h)
    · exact .inl (.inl h)
end Go.Proofs.Ythlebppdhipanaa
