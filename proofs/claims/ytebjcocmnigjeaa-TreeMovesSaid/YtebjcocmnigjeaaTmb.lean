/-
  Trees told to be the same: by the document.
-/
import Derived.Test.YtebjcocmnigjeaaTma
import Derived.Test.YtebjcocmnigjeaaSyR
namespace Go.Proofs.Ytebjcocmnigjeaa
open Go.Ev
open Go.Aw (tiOf fieldsOf)

theorem eq23' (a b a' b' : Int) : eqInV Try.prog 40 23 (.agg [.lit (.int .i64 a), .lit (.int .i64 b)]) (.agg [.lit (.int .i64 a'), .lit (.int .i64 b')]) = some ((a == a') && ((b == b') && true)) := by kernel_rfl
@[simp] theorem eq23 (a b a' b' : Int) : eqInV Try.prog 40 23 (.agg [.lit (.int .i64 a), .lit (.int .i64 b)]) (.agg [.lit (.int .i64 a'), .lit (.int .i64 b')]) = some ((a == a') && (b == b')) := by rw [eq23', Bool.and_true]

/-- Are two the same, so deep at most? -/
def hdN (sp : Bool) : Nd → Nd → Bool
  | .mk k a b t _, .mk k' a' b' t' _ => decide (k = k') && (decide (t = t') && (!sp || (decide (a = a') && decide (b = b'))))
def eqN (sp : Bool) : Nat → Nd → Nd → Bool
  | 0, x, y => hdN sp x y
  | m + 1, x, y => hdN sp x y && (decide (x.kids.length = y.kids.length) && (x.kids.zip y.kids).all fun p => eqN sp m p.1 p.2)

def encE (sp : Bool) (m : Nat) (p : Nd × Nd) : List D := [.agg (rowN p.1), .agg (rowN p.2), .lit (.bool sp), .lit (.int .i64 ((m : Int) + 1))]
theorem encE_inj (sp : Bool) (m : Nat) (p q : Nd × Nd) (h : encE sp m p = encE sp m q) : p = q := by
  simp [encE] at h
  exact Prod.ext (rowN_inj _ _ h.1) (rowN_inj _ _ h.2)
noncomputable def eqT (sp : Bool) (m : Nat) : List D → Option (Prop × D) := ctr (encE sp m) (fun p => fewN p.1 = true ∧ fewN p.2 = true) (fun p => .lit (.bool (eqN sp m p.1 p.2)))
theorem eqT_eq (sp : Bool) (m : Nat) (x y : Nd) : eqT sp m [.agg (rowN x), .agg (rowN y), .lit (.bool sp), .lit (.int .i64 ((m : Int) + 1))] = some (fewN x = true ∧ fewN y = true, .lit (.bool (eqN sp m x y))) :=
  ctr_enc (encE_inj sp m) (x, y)
theorem eqT_200 (sp : Bool) (x y : Nd) : eqT sp 199 [.agg (rowN x), .agg (rowN y), .lit (.bool sp), .lit (.int .i64 200)] = some (fewN x = true ∧ fewN y = true, .lit (.bool (eqN sp 199 x y))) := eqT_eq sp 199 x y

def eqF (x y : Nd) (sp : Bool) (most : Int) (i : Nat) : S :=
  S.mk 63 [(2, .lit (.bool sp)), (3, .lit (.int .i64 most)), (4, .pt 0 0), (5, .pt 1 0), (9, .lit (.int .i64 i))]
    [(0, .cells 26 none (rowN x)), (1, .cells 26 none (rowN y))] 2 [] none []

theorem zipAll (f : Nd → Nd → Bool) (l l' : List Nd) : ((l.zip l').all fun p => f p.1 p.2) = true ↔ ∀ i (h : i < l.length) (h' : i < l'.length), f l[i] l'[i] = true := by
  rw [List.all_eq_true]
  constructor
  · intro h i h1 h2
    exact h (l[i], l'[i]) (List.mem_iff_getElem.mpr ⟨i, by simp; omega, by simp⟩)
  · intro h p hp
    obtain ⟨i, hi, rfl⟩ := List.mem_iff_getElem.mp hp
    simp only [List.length_zip] at hi
    simpa using h i (by omega) (by omega)
theorem zipNot (f : Nd → Nd → Bool) (l l' : List Nd) (i : Nat) (h : i < l.length) (h' : i < l'.length) (hf : f l[i] l'[i] = false) : ((l.zip l').all fun p => f p.1 p.2) = false := by
  cases hq : ((l.zip l').all fun p => f p.1 p.2) with
  | false => rfl
  | true => rw [(zipAll f l l').mp hq i h h'] at hf; cases hf

theorem seals_bool {hp : List (Nat × Blk)} {b c : Bool} (h : c = b) : Seals hp (.lit (.bool b)) (.lit (.bool c)) := by
  subst h
  exact .same _ (by simp)

set_option maxHeartbeats 1000000 in
set_option maxRecDepth 10000 in
theorem equal_ok (sp : Bool) : ∀ (m : Nat), m ≤ 1000 → ∀ p : Nd × Nd, fewN p.1 = true ∧ fewN p.2 = true → FnO Try.prog 52 (encE sp m p) (.ret (.lit (.bool (eqN sp m p.1 p.2)))) := by
  intro m
  induction m with
  | zero =>
    intro _ ⟨x, y⟩ hn
    have ht := tb0_ok Try.prog
    refine fnO_wp ht fol Try.func52 rfl (by kernel_rfl) (by simp [Try.ntmps52, encE]) (by kernel_rfl) fun I => ?_
    obtain ⟨k, a, b, t, l⟩ := x
    obtain ⟨k', a', b', t', l'⟩ := y
    simp -implicitDefEqProofs [Try.ntmps52, encE, rowN]
    refine ⟨fun h1 h2 => ⟨⟨h1, h2⟩, fun h3 => ⟨⟨h1, h2⟩, h3⟩⟩, fun h => seals_bool ?_, fun h1 h2 h3 => seals_bool ?_⟩
    · rcases h with (h | h) | ⟨h1, h2 | h2⟩ <;> simp [eqN, hdN, *]
    · cases sp <;> simp [eqN, hdN, h1, h2] <;> simpa using h3
  | succ m ih =>
    intro hm ⟨x, y⟩ hn
    have ht := tbC_ok (P := Try.prog) (g := 52) (f := eqT sp m) (ctr_ok fun p hp => ⟨ih (by omega) p hp, by simp [encE], by simp⟩) (tb0_ok _)
    refine fnO_wp ht fol Try.func52 rfl (by kernel_rfl) (by simp [Try.ntmps52, encE]) (by kernel_rfl) fun I => ?_
    obtain ⟨k, a, b, t, l⟩ := x
    obtain ⟨k', a', b', t', l'⟩ := y
    have e1 : ¬ ((m : Int) + 1 + 1 = 1) := by omega
    simp -implicitDefEqProofs [Try.ntmps52, encE, rowN, e1]
    simp only [fewN, Bool.and_eq_true, decide_eq_true_eq] at hn
    obtain ⟨⟨_, hlen, hfew⟩, _, hlen', hfew'⟩ := hn
    refine ⟨fun h1 h2 => ⟨⟨h1, h2⟩, fun h3 => ⟨⟨h1, h2⟩, h3⟩⟩, fun h => seals_bool ?_, fun h1 h2 h3 => ⟨fun h4 => seals_bool ?_, fun h4 => ?_⟩⟩
    · rcases h with (h | h) | ⟨h1, h2 | h2⟩ <;> simp [eqN, hdN, *]
    · have : ¬ l.length = l'.length := by omega
      simp [eqN, Nd.kids, this]
    · have h4 : l.length = l'.length := by omega
      have hd : hdN sp (.mk k a b t l) (.mk k' a' b' t' l') = true := by cases sp <;> simp [hdN, h1, h2] <;> simpa using h3
      refine w_loop (fun i : { i : Nat // i ≤ l.length ∧ ∀ j (h : j < l.length) (h' : j < l'.length), j < i → eqN sp m l[j] l'[j] = true } => eqF (.mk k a b t l) (.mk k' a' b' t' l') sp ((m : Int) + 1 + 1) i.1) (fun i => l.length - i.1) ⟨0, Nat.zero_le _, fun j _ _ h => by omega⟩ (le_of [0, 1] (by simp [eqF, rowN])) fun ⟨i, hi, hall⟩ => wp_ok ht fol _ _ _ (by kernel_rfl) ?_
      have hw : IntKind.i64.wrap ((m : Int) + 1) = (m : Int) + 1 := wrap64 (by omega) (by omega)
      have hw2 : IntKind.i64.wrap ((i : Int) + 1) = (i : Int) + 1 := wrap64 (by omega) (by omega)
      by_cases hil : i < l.length
      · have hf := fewL_get l i hil hfew
        have hil' : i < l'.length := by omega
        have hf' := fewL_get l' i hil' hfew'
        simp -implicitDefEqProofs [eqF, rowN, hil, hil', hw, hw2, eqT_eq, hf, hf']
        refine ⟨fun h => seals_bool ?_, fun h => ⟨i + 1, le_of [0, 1] (by simp), ⟨by omega, fun j hj hj' h5 => ?_⟩, by omega⟩⟩
        · simp only [eqN, Nd.kids, hd, h4, decide_true, Bool.true_and]
          exact zipNot _ _ _ i hil hil' h
        · by_cases h6 : j = i
          · subst h6; exact h
          · exact hall j hj hj' (by omega)
      · have : i = l.length := by omega
        subst this
        simp -implicitDefEqProofs [eqF, rowN]
        refine seals_bool ?_
        simp only [eqN, Nd.kids, hd, h4, decide_true, Bool.true_and]
        exact (zipAll _ _ _).mpr fun j hj hj' => hall j hj hj' hj

set_option maxRecDepth 10000 in
theorem equalT_ok (x y : Nd) (hx : fewN x = true) (hy : fewN y = true) : FnO Try.prog 13 [.agg (rowN x), .agg (rowN y)] (.ret (.lit (.bool (eqN true 199 x y)))) := by
  have ht := tbC_ok (P := Try.prog) (g := 52) (f := eqT true 199) (ctr_ok fun p hp => ⟨equal_ok true 199 (by omega) p hp, by simp [encE], by simp⟩) (tb0_ok _)
  refine fnO_wp ht fol Try.func13 rfl (by kernel_rfl) (by simp [Try.ntmps13]) (by kernel_rfl) fun I => ?_
  simp -implicitDefEqProofs [Try.ntmps13, eqT_200, hx, hy]
  exact .same _ (by simp)

set_option maxRecDepth 10000 in
theorem refMove_ok (n : Nd) (hn : fewN n = true) (by_ : Int) : FnO Try.prog 14 [.agg (rowN n), .lit (.int .i64 by_)] (.ret (.agg (rowN (chg (spMove by_) 199 n)))) := by
  have ht := tbC_ok (P := Try.prog) (g := 53) (f := cgT by_ false 199) (ctr_ok fun p hp => ⟨change_ok by_ false 199 (by omega) p hp, by simp [encG], by simp⟩) (tb0_ok _)
  refine fnO_wp ht fol Try.func14 rfl (by kernel_rfl) (by simp [Try.ntmps14]) (by kernel_rfl) fun I => ?_
  simp -implicitDefEqProofs [Try.ntmps14, cgT_200, hn]
  exact .same _ (by simp)

set_option maxRecDepth 10000 in
theorem refBare_ok (n : Nd) (hn : fewN n = true) : FnO Try.prog 16 [.agg (rowN n)] (.ret (.agg (rowN (chg spBare 199 n)))) := by
  have ht := tbC_ok (P := Try.prog) (g := 53) (f := cgT 0 true 199) (ctr_ok fun p hp => ⟨change_ok 0 true 199 (by omega) p hp, by simp [encG], by simp⟩) (tb0_ok _)
  refine fnO_wp ht fol Try.func16 rfl (by kernel_rfl) (by simp [Try.ntmps16]) (by kernel_rfl) fun I => ?_
  simp -implicitDefEqProofs [Try.ntmps16, cgT_200, hn]
  exact .same _ (by simp)
end Go.Proofs.Ytebjcocmnigjeaa

/-
  Trees told to be the same: by the program.
-/
namespace Go.Proofs.Ytebjcocmnigjeaa
open Go.Ev
open Go.Aw (tiOf fieldsOf)

/-! ### slices.EqualFunc -/
def allZ (f : Nd → Nd → Bool) (l l' : List Nd) : Bool := decide (l.length = l'.length) && (l.zip l').all fun p => f p.1 p.2

def encX (caps : List D) (p : Nd × Nd) : List D := .agg (rowN p.1) :: .agg (rowN p.2) :: caps
theorem encX_inj (caps : List D) (p q : Nd × Nd) (h : encX caps p = encX caps q) : p = q := by
  simp [encX] at h
  exact Prod.ext (rowN_inj _ _ h.1) (rowN_inj _ _ h.2)

/-- What a function tells of two. -/
def PrOk (gs : FuncId) (caps : List D) (f : Nd → Nd → Bool) : Prop :=
  D.belL 0 caps = true ∧ ∀ p : Nd × Nd, fewN p.1 = true ∧ fewN p.2 = true → FnO Try.prog gs (encX caps p) (.ret (.lit (.bool (f p.1 p.2))))

noncomputable def prT (caps : List D) (f : Nd → Nd → Bool) : List D → Option (Prop × D) := ctr (encX caps) (fun p => fewN p.1 = true ∧ fewN p.2 = true) (fun p => .lit (.bool (f p.1 p.2)))
theorem prT_eq (caps : List D) (f : Nd → Nd → Bool) (x y : Nd) : prT caps f (.agg (rowN x) :: .agg (rowN y) :: caps) = some (fewN x = true ∧ fewN y = true, .lit (.bool (f x y))) :=
  ctr_enc (encX_inj caps) (x, y)
theorem prT_ok {gs : FuncId} {caps : List D} {f : Nd → Nd → Bool} (h : PrOk gs caps f) : ∀ xs p d, prT caps f xs = some (p, d) → p → FnO Try.prog gs xs (.ret d) ∧ D.belL 0 xs = true ∧ D.bel 0 d = true :=
  ctr_ok fun q hq => ⟨h.2 q hq, by simp [encX, h.1], by simp⟩

def efF (gs : FuncId) (caps : List D) (l l' : List Nd) (i : Nat) : S :=
  S.mk 32 [(1, .sq false 5 (rowsN l')), (2, .fn (.func gs) [] caps), (15, .sq false 5 (rowsN l)), (16, .lit (.int .i64 l.length)), (17, .lit (.int .i64 i))] [] 0 [] none []

set_option maxHeartbeats 1000000 in
set_option maxRecDepth 10000 in
theorem equalFunc_ok {gs : FuncId} {caps : List D} {f : Nd → Nd → Bool} (h : PrOk gs caps f) (l l' : List Nd) (hl : l.length ≤ 1000) (hl' : l'.length ≤ 1000) (hf : fewL l = true) (hf' : fewL l' = true) :
    FnO Try.prog 84 [.sq false 5 (rowsN l), .sq false 5 (rowsN l'), .fn (.func gs) [] caps] (.ret (.lit (.bool (allZ f l l')))) := by
  have ht := tbC_ok (P := Try.prog) (prT_ok h) (tb0_ok _)
  refine fnO_wp ht fol Try.func84 rfl (by kernel_rfl) (by simp [Try.ntmps84]) (by kernel_rfl) fun I => ?_
  simp -implicitDefEqProofs [Try.ntmps84]
  refine ⟨fun h4 => seals_bool ?_, fun h4 => ?_⟩
  · have : ¬ l.length = l'.length := by omega
    simp [allZ, this]
  · have h4 : l.length = l'.length := by omega
    refine w_loop (fun i : { i : Nat // i ≤ l.length ∧ ∀ j (h : j < l.length) (h' : j < l'.length), j < i → f l[j] l'[j] = true } => efF gs caps l l' i.1) (fun i => l.length - i.1) ⟨0, Nat.zero_le _, fun j _ _ h => by omega⟩ (le_of [] (by simp [efF, h.1, belL_up, renL_free])) fun ⟨i, hi, hall⟩ => wp_ok ht fol _ _ _ (by kernel_rfl) ?_
    have hw2 : IntKind.i64.wrap ((i : Int) + 1) = (i : Int) + 1 := wrap64 (by omega) (by omega)
    by_cases hil : i < l.length
    · have hf1 := fewL_get l i hil hf
      have hil' : i < l'.length := by omega
      have hf1' := fewL_get l' i hil' hf'
      simp -implicitDefEqProofs [efF, hil, hil', hw2, prT_eq, hf1, hf1']
      refine ⟨fun h => seals_bool ?_, fun h5 => ⟨i + 1, le_of [] (by simp [h.1, belL_up, renL_free]), ⟨by omega, fun j hj hj' h6 => ?_⟩, by omega⟩⟩
      · simp only [allZ, h4, decide_true, Bool.true_and]
        exact zipNot _ _ _ i hil hil' h
      · by_cases h7 : j = i
        · subst h7; exact h5
        · exact hall j hj hj' (by omega)
    · have : i = l.length := by omega
      subst this
      simp -implicitDefEqProofs [efF]
      refine seals_bool ?_
      simp only [allZ, h4, decide_true, Bool.true_and]
      exact (zipAll _ _ _).mpr fun j hj hj' => hall j hj hj' hj

/-! ### tree.same -/
def encS (m : Nat) (p : Nd × Nd) : List D := [.agg (rowN p.1), .agg (rowN p.2), .lit (.int .i64 ((m : Int) + 1))]
theorem encS_inj (m : Nat) (p q : Nd × Nd) (h : encS m p = encS m q) : p = q := by
  simp [encS] at h
  exact Prod.ext (rowN_inj _ _ h.1) (rowN_inj _ _ h.2)
noncomputable def smT (m : Nat) : List D → Option (Prop × D) := ctr (encS m) (fun p => fewN p.1 = true ∧ fewN p.2 = true) (fun p => .lit (.bool (eqN false m p.1 p.2)))
theorem smT_eq (m : Nat) (x y : Nd) : smT m [.agg (rowN x), .agg (rowN y), .lit (.int .i64 ((m : Int) + 1))] = some (fewN x = true ∧ fewN y = true, .lit (.bool (eqN false m x y))) :=
  ctr_enc (encS_inj m) (x, y)
theorem smT_200 (x y : Nd) : smT 199 [.agg (rowN x), .agg (rowN y), .lit (.int .i64 200)] = some (fewN x = true ∧ fewN y = true, .lit (.bool (eqN false 199 x y))) := smT_eq 199 x y

set_option maxRecDepth 10000 in
theorem same1_ok (q : Option Nat) (m : Nat) (hm : m ≤ 1000) (ih : ∀ p : Nd × Nd, fewN p.1 = true ∧ fewN p.2 = true → FnO Try.prog 55 (encS m p) (.ret (.lit (.bool (eqN false m p.1 p.2))))) :
    PrOk 85 [.ps q [.lit (.int .i64 ((m : Int) + 1 + 1))] 0] (eqN false m) := by
  refine ⟨by simp, fun ⟨x, y⟩ hp => ?_⟩
  have ht := tbC_ok (P := Try.prog) (g := 55) (f := smT m) (ctr_ok fun p hp => ⟨ih p hp, by simp [encS], by simp⟩) (tb0_ok _)
  refine fnO_wp ht fol Try.func85 rfl (by kernel_rfl) (by simp [Try.ntmps85, encX]) (by kernel_rfl) fun I => ?_
  have hw : IntKind.i64.wrap ((m : Int) + 1) = (m : Int) + 1 := wrap64 (by omega) (by omega)
  simp only [] at hp
  simp -implicitDefEqProofs [Try.ntmps85, encX, hw, smT_eq, hp]
  exact .same _ (by simp)

/-- What EqualFunc is asked. -/
def encL (caps : List D) (p : List Nd × List Nd) : List D := [.sq false 5 (rowsN p.1), .sq false 5 (rowsN p.2), .fn (.func 85) [] caps]
theorem encL_inj (caps : List D) (p q : List Nd × List Nd) (h : encL caps p = encL caps q) : p = q := by
  simp [encL] at h
  exact Prod.ext (rowsN_inj _ _ h.1) (rowsN_inj _ _ h.2)
def okLs (p : List Nd × List Nd) : Prop := (p.1.length ≤ 1000 ∧ p.2.length ≤ 1000) ∧ fewL p.1 = true ∧ fewL p.2 = true
noncomputable def efT (caps : List D) (f : Nd → Nd → Bool) : List D → Option (Prop × D) := ctr (encL caps) okLs (fun p => .lit (.bool (allZ f p.1 p.2)))
theorem efT_eq (caps : List D) (f : Nd → Nd → Bool) (l l' : List Nd) : efT caps f [.sq false 5 (rowsN l), .sq false 5 (rowsN l'), .fn (.func 85) [] caps] = some (okLs (l, l'), .lit (.bool (allZ f l l'))) :=
  ctr_enc (encL_inj caps) (l, l')

theorem eqN_succ (sp : Bool) (m : Nat) (k a b k' a' b' : Int) (t t' : ByteArray) (l l' : List Nd) : eqN sp (m + 1) (.mk k a b t l) (.mk k' a' b' t' l') = (hdN sp (.mk k a b t l) (.mk k' a' b' t' l') && allZ (eqN sp m) l l') := rfl

set_option maxHeartbeats 1000000 in
set_option maxRecDepth 10000 in
theorem same_ok : ∀ (m : Nat), m ≤ 1000 → ∀ p : Nd × Nd, fewN p.1 = true ∧ fewN p.2 = true → FnO Try.prog 55 (encS m p) (.ret (.lit (.bool (eqN false m p.1 p.2)))) := by
  intro m
  induction m with
  | zero =>
    intro _ ⟨x, y⟩ hn
    have ht := tb0_ok Try.prog
    refine fnO_wp ht fol Try.func55 rfl (by kernel_rfl) (by simp [Try.ntmps55, encS]) (by kernel_rfl) fun I => ?_
    obtain ⟨k, a, b, t, l⟩ := x
    obtain ⟨k', a', b', t', l'⟩ := y
    simp -implicitDefEqProofs [Try.ntmps55, encS, rowN]
    refine ⟨fun h => seals_bool ?_, fun h1 h2 => callS_no (.lit (.bool false)) ?_⟩
    · rcases h with h | h <;> simp [eqN, hdN, h]
    · simp -implicitDefEqProofs
      exact seals_bool (by simp [eqN, hdN, h1, h2])
  | succ m ih =>
    intro hm ⟨x, y⟩ hn
    refine fnO_of Try.func55 rfl (by kernel_rfl) (by simp [Try.ntmps55, encS]) fun I => ?_
    refine w_seq (wp_ok (tb0_ok _) fol _ _ _ (by kernel_rfl) ?_)
    obtain ⟨k, a, b, t, l⟩ := x
    obtain ⟨k', a', b', t', l'⟩ := y
    simp -implicitDefEqProofs [Try.ntmps55, encS, rowN]
    refine w_frz 5 2 rfl rfl fun q => ?_
    have ht := tbC_ok (P := Try.prog) (g := 84) (f := efT [.ps (some q) [.lit (.int .i64 ((m : Int) + 1 + 1))] 0] (eqN false m)) (ctr_ok fun p hp => ⟨equalFunc_ok (same1_ok (some q) m (by omega) (ih (by omega))) p.1 p.2 hp.1.1 hp.1.2 hp.2.1 hp.2.2, by simp [encL], by simp⟩) (tb0_ok _)
    refine wp_ok ht fol _ _ _ (by kernel_rfl) ?_
    have e1 : ¬ ((m : Int) + 1 + 1 = 1) := by omega
    simp -implicitDefEqProofs [e1, efT_eq]
    simp only [fewN, Bool.and_eq_true, decide_eq_true_eq] at hn
    obtain ⟨⟨_, hlen, hfew⟩, _, hlen', hfew'⟩ := hn
    refine ⟨fun h => seals_bool ?_, fun h1 h2 => ⟨⟨⟨hlen, hlen'⟩, hfew, hfew'⟩, seals_bool ?_⟩⟩
    · rw [eqN_succ]
      rcases h with h | h <;> simp [hdN, h]
    · have e2 : ((m : Int) + 1 + 1 == 1) = false := by simpa using e1
      rw [eqN_succ, e2]
      simp [hdN, h1, h2]

set_option maxRecDepth 10000 in
theorem sameT_ok (x y : Nd) (hx : fewN x = true) (hy : fewN y = true) : FnO Try.prog 17 [.agg (rowN x), .agg (rowN y)] (.ret (.lit (.bool (eqN false 199 x y)))) := by
  have ht := tbC_ok (P := Try.prog) (g := 55) (f := smT 199) (ctr_ok fun p hp => ⟨same_ok 199 (by omega) p hp, by simp [encS], by simp⟩) (tb0_ok _)
  refine fnO_wp ht fol Try.func17 rfl (by kernel_rfl) (by simp [Try.ntmps17]) (by kernel_rfl) fun I => ?_
  simp -implicitDefEqProofs [Try.ntmps17, smT_200, hx, hy]
  exact .same _ (by simp)
end Go.Proofs.Ytebjcocmnigjeaa

/-
  Trees walked: by the program.
-/
namespace Go.Proofs.Ytebjcocmnigjeaa
open Go.Ev
open Go.Aw (tiOf fieldsOf)
@[simp] theorem ti27 : tiOf Try.prog 27 = some ⟨1, 8, .oth, [.zf]⟩ := by kernel_rfl
@[simp] theorem ti33 : tiOf Try.prog 33 = some ⟨1, 8, .oth, [.zf]⟩ := by kernel_rfl

mutual
def walkL : Nd → Int → List Nd
  | .mk k a b t l, m => .mk k a b t l :: (if m > 1 then walksL l (m - 1) else [])
def walksL : List Nd → Int → List Nd
  | [], _ => []
  | n :: r, m => walkL n m ++ walksL r m
end

theorem walksL_append (m : Int) : ∀ (a b : List Nd), walksL (a ++ b) m = walksL a m ++ walksL b m
  | [], b => by simp [walksL]
  | x :: a, b => by simp [walksL, walksL_append m a b]

theorem walksL_split (m : Int) (l : List Nd) (i : Nat) (h : i < l.length) : walksL l m = walksL (l.take i) m ++ (walkL l[i] m ++ walksL (l.drop (i + 1)) m) := by
  conv => lhs; rw [← List.take_append_drop i l, List.drop_eq_getElem_cons h]
  rw [walksL_append]
  rfl

theorem walksL_take (m : Int) (l : List Nd) (i : Nat) (h : i < l.length) : (walksL (l.take (i + 1)) m).length = (walksL (l.take i) m).length + (walkL l[i] m).length := by
  rw [List.take_succ_eq_append_getElem h, walksL_append, List.length_append]
  simp [walksL]

/-- How many were told before the i-th kid. -/
def wl (l : List Nd) (most : Int) (i : Nat) : Nat := if most > 1 then (walksL (l.take i) (most - 1)).length else 0

def walkF (y : Value) (by_ bw : Nat) (most : Int) (l : List Nd) (k : Nat) (i : Nat) : S :=
  { n := 31, tm := [(1, .lit (.int .i64 most)), (2, .ps (some by_) [.con y] 0), (3, .ps (some bw) [.fn (.func 88) [] [.ps (some by_) [.con y] 0, .con (.pointer (some ⟨bw, 0, none⟩))]] 0), (14, .sq false 5 (rowsN l)), (15, .lit (.int .i64 l.length)), (16, .lit (.int .i64 i))],
    hp := [], nx := 0, df := [], g := some (k + 1 + wl l most i), ex := [] }

set_option maxRecDepth 10000 in
theorem walk_ok (y : Value) (by_ bw : Nat) : ∀ (n : Nd) (most : Int) (hm : -9223372036854775808 ≤ most ∧ most ≤ 9223372036854775807) (I : Gh) (xs : List (List D)), YieldOk Try.prog I y xs → ∀ k : Nat, (∀ i x, (walkL n most)[i]? = some x → xs[k + i]? = some [.agg (rowN x)]) →
    FnG Try.prog I 88 [.agg (rowN n), .lit (.int .i64 most), .ps (some by_) [.con y] 0, .ps (some bw) [.fn (.func 88) [] [.ps (some by_) [.con y] 0, .con (.pointer (some ⟨bw, 0, none⟩))]] 0] (some k)
      (fun d g' => (d = .lit (.bool true) ∧ g' = some (k + (walkL n most).length)) ∨ (d = .lit (.bool false) ∧ g' = none))
  | .mk k0 a b t l, most, hm, I, xs, hy, k, hxs => by
    refine fnG_wp (tb0_ok _) fol Try.func88 rfl (by kernel_rfl) (by simp [Try.ntmps88]) (by kernel_rfl) fun I' hI => ?_
    simp only [rowN]
    simp -implicitDefEqProofs [Try.ntmps88]
    refine callS_yield (xs := xs) (k := k) (fun _ => trivial) (fun _ => hy.fr hI) (fun _ => rfl) (fun _ => ?_) (fun _ => by simp) (fun _ t0 => ?_) (fun h => by cases h)
    · have := hxs 0 (.mk k0 a b t l) (by simp [walkL])
      simpa [rowN] using this
    cases t0 with
    | false => simp -implicitDefEqProofs
    | true =>
      simp -implicitDefEqProofs
      refine w_len 14 rfl fun hlen => ?_
      refine w_loop (fun i : { i : Nat // i ≤ l.length } => walkF y by_ bw most l k i.1) (fun i => l.length - i.1) ⟨0, Nat.zero_le _⟩ (le_of [] (by simp [walkF, wl, walksL])) fun ⟨i, hi⟩ => wp_ok (tb0_ok _) fol _ _ _ (by kernel_rfl) ?_
      rw [rowsN_length] at hlen
      by_cases hil : i < l.length
      · by_cases hmo : most > 1
        · simp -implicitDefEqProofs [walkF, hil, hmo, wrap64 (x := most - 1) (by omega) (by omega)]
          refine callS_fnG (KG := fun d g' => (d = .lit (.bool true) ∧ g' = some (k + 1 + wl l most i + (walkL l[i] (most - 1)).length)) ∨ (d = .lit (.bool false) ∧ g' = none)) (fun _ => trivial)
            (fun _ => walk_ok y by_ bw l[i] (most - 1) (by omega) I' xs (hy.fr hI) (k + 1 + wl l most i) fun j x hj => ?_) (by simp)
            (fun M w a zs hr vs h => args_step h (fun _ h => h) fun us h => args_step h (fun _ h => h) fun us h => args_step h (fun _ h => h) fun us h => args_step h (fun v hv => con_ps (hr.t 3 _ rfl) hv) fun us h => h) (fun _ d g' hd hk => ?_) (fun h => by cases h)
          · rw [Nat.add_assoc, Nat.add_assoc]
            refine hxs (1 + (wl l most i + j)) x ?_
            rw [walkL, if_pos hmo, Nat.add_comm 1, List.getElem?_cons_succ, wl, if_pos hmo, walksL_split _ l i hil, List.getElem?_append_right (by omega), Nat.add_sub_cancel_left, List.getElem?_append_left (List.getElem?_eq_some_iff.1 hj).1]
            exact hj
          · rcases hk with ⟨rfl, rfl⟩ | ⟨rfl, rfl⟩
            · simp -implicitDefEqProofs [wrap64 (x := (i : Int) + 1) (by omega) (by omega)]
              refine ⟨i + 1, le_of [] ?_, by omega, by omega⟩
              simp [wl, hmo, walksL_take _ l i hil]
              omega
            · simp -implicitDefEqProofs
        · simp -implicitDefEqProofs [walkF, hil, hmo]
          refine callS_no (.lit (.bool true)) ?_
          simp -implicitDefEqProofs [wrap64 (x := (i : Int) + 1) (by omega) (by omega)]
          refine ⟨i + 1, le_of [] ?_, by omega, by omega⟩
          simp [wl, hmo]
      · have : i = l.length := by omega
        subst this
        simp -implicitDefEqProofs [walkF]
        simp only [walkL, wl, List.length_cons]
        split <;> simp <;> omega
termination_by n => SizeOf.sizeOf n
decreasing_by
  have := List.sizeOf_lt_of_mem (List.getElem_mem hil)
  simp
  omega

theorem nodes_ok (n : Nd) (most : Int) : FnO Try.prog 57 [.agg (rowN n), .lit (.int .i64 most)] (.ret (.fn (.func 87) [] [.ps none (rowN n) 0, .ps none [.lit (.int .i64 most)] 0])) := by
  refine fnO_wp (tb0_ok _) fol Try.func57 rfl (by kernel_rfl) (by simp [Try.ntmps57]) (by kernel_rfl) fun I => ?_
  simp -implicitDefEqProofs [Try.ntmps57]
  repeat' first | exact .same _ (by simp) | exact sealsL_same (by simp) | refine seals_fn ?_ ?_ | refine sealsL_cons ?_ ?_ | refine seals_pt rfl ?_

set_option maxRecDepth 10000 in
theorem nodes1_ok (n : Nd) (most : Int) (hm : -9223372036854775808 ≤ most ∧ most ≤ 9223372036854775807) : IterOk Try.prog 87 [] [.ps none (rowN n) 0, .ps none [.lit (.int .i64 most)] 0] ((walkL n most).map fun x => [.agg (rowN x)]) := by
  intro I y hy
  refine fnG_of Try.func87 rfl (by kernel_rfl) (by simp [Try.ntmps87]) fun own f0 w0 => ?_
  have hy' := hy.frame own f0 w0
  generalize I.frame own f0 w0 = I' at hy'
  refine w_seq (wp_ok (tb0_ok _) fol _ _ _ (by kernel_rfl) ?_)
  simp -implicitDefEqProofs [Try.ntmps87]
  refine w_frz 3 0 rfl rfl fun b1 => ?_
  refine w_seq (wp_ok (tb0_ok _) fol _ _ _ (by kernel_rfl) ?_)
  simp -implicitDefEqProofs
  refine w_seq (wp_ok (tb0_ok _) fol _ _ _ (by kernel_rfl) ?_)
  simp -implicitDefEqProofs
  refine w_frz 4 1 rfl rfl fun b2 => wp_ok (tb0_ok _) fol _ _ _ (by kernel_rfl) ?_
  simp -implicitDefEqProofs
  refine callS_fnG (KG := fun d g' => (d = .lit (.bool true) ∧ g' = some (0 + (walkL n most).length)) ∨ (d = .lit (.bool false) ∧ g' = none)) (fun _ => trivial)
    (fun _ => walk_ok y b1 b2 n most hm I' _ hy' 0 fun j x hj => by simp [hj]) (by simp)
    (fun M w a zs hr vs h => args_step h (fun _ h => h) fun us h => args_step h (fun _ h => h) fun us h => args_step h (fun _ h => h) fun us h => args_step h (fun v hv => con_ps (hr.t 4 _ rfl) hv) fun us h => h) (fun _ d g' hd hk => ?_) (fun h => by cases h)
  rcases hk with ⟨rfl, rfl⟩ | ⟨rfl, rfl⟩
  · simp -implicitDefEqProofs
  · simp -implicitDefEqProofs

def apF (rows : List (List D)) : Nat → S
  | 0 => { n := 15, tm := [(2, .pt 0 0)], hp := [(0, .cells 24 none [.lit (.slice none 0 0)]), (1, .dfr)], nx := 2, df := [1], g := none, ex := [] }
  | k + 1 => { n := 15, tm := [(2, .pt 0 0)], hp := [(0, .cells 24 none [.ow 2 (k + 1)]), (1, .dfr), (2, .cells 26 (some 5) (rows.take (k + 1)).flatten)], nx := 3, df := [1], g := none, ex := [] }

theorem flatten_take_succ (rows : List (List D)) (k : Nat) (r : List D) (h : rows[k]? = some r) : (rows.take (k + 1)).flatten = (rows.take k).flatten ++ r := by
  obtain ⟨hk, rfl⟩ := List.getElem?_eq_some_iff.1 h
  rw [List.take_succ_eq_append_getElem hk, List.flatten_append]
  simp

set_option maxRecDepth 10000 in
theorem appendSeq_ok {gg : FuncId} {first caps : List D} {rows : List (List D)} (hb : D.belL 0 first = true ∧ D.belL 0 caps = true) (hz : ∀ r ∈ rows, r.length = 5) (hbel : D.belLL 0 rows = true) (hlen : rows.length ≤ 1000000) (hit : IterOk Try.prog gg first caps (rows.map fun r => [.agg r])) :
    FnO Try.prog 86 [.lit (.slice none 0 0), .fn (.func gg) first caps] (.ret (.sq false 5 rows)) := by
  refine fnO_wp (tb0_ok _) fol Try.func86 rfl (by kernel_rfl) (by simp [Try.ntmps86]) (by kernel_rfl) fun I => ?_
  simp -implicitDefEqProofs [Try.ntmps86]
  have hr5 : ∀ k r, rows[k]? = some r → r.length = 5 ∧ D.belL 0 r = true ∧ k < rows.length := fun k r h => ⟨hz r (List.mem_of_getElem? h), belLL_get 0 rows k r hbel h, (List.getElem?_eq_some_iff.1 h).1⟩
  refine w_range (apF rows) rfl hb hit (le_of [0, 1] (by simp [apF])) (by simp) (fun k t ht => by cases k <;> simp at ht <;> subst ht <;> simp [apF]) (fun k => by cases k <;> simp [apF]) (fun k l q h => ?_) (fun x hx => ?_) (fun k x hx I' hI => ?_) ?_
  · cases k with
    | zero =>
      simp only [apF, lk] at h ⊢
      split at h
      · omega
      · split at h
        · omega
        · cases h
    | succ k =>
      simp only [apF, lk] at h ⊢
      split at h
      · omega
      · split at h
        · omega
        · split at h
          · omega
          · cases h
  · simp only [List.mem_map] at hx
    obtain ⟨r, hr, rfl⟩ := hx
    obtain ⟨k, hk⟩ := List.mem_iff_getElem?.1 hr
    simp [(hr5 k r hk).2.1]
  · simp only [List.getElem?_map, Option.map_eq_some_iff] at hx
    obtain ⟨r, hr, rfl⟩ := hx
    obtain ⟨h5, hbr, hkl⟩ := hr5 k r hr
    refine wp_ok (tb0_ok _) fol _ _ _ (by kernel_rfl) ?_
    cases k with
    | zero =>
      simp -implicitDefEqProofs [apF, h5]
      intro I2 hI2
      refine wp_ok (tb0_ok _) fol _ _ _ (by kernel_rfl) ?_
      simp -implicitDefEqProofs [h5, List.take_of_length_le]
      refine le_of [0, 1, 6] ?_
      have := flatten_take_succ rows 0 r hr
      simp at this
      simp [this, renL_free _ r hbr, belL_up _ r hbr]
    | succ k =>
      simp only [apF]
      rw [flatten_take_succ rows (k + 1) r hr]
      have hfl : ((rows.take (k + 1)).flatten).length = (k + 1) * 5 := by
        rw [flatten_length (sz := 5) _ (fun q hq => hz q (List.mem_of_mem_take hq)), List.length_take, Nat.min_eq_left (by omega)]
      have hfb : D.belL 0 (rows.take (k + 1)).flatten = true := belL_flatten _ fun q hq => by
        obtain ⟨j, hj⟩ := List.mem_iff_getElem?.1 (List.mem_of_mem_take hq)
        exact (hr5 j q hj).2.1
      generalize (rows.take (k + 1)).flatten = fl at hfl hfb
      simp -implicitDefEqProofs [h5]
      intro I2 hI2
      refine wp_ok (tb0_ok _) fol _ _ _ (by kernel_rfl) ?_
      simp -implicitDefEqProofs [h5, hfl, List.take_left' hfl, List.take_of_length_le]
      refine ⟨⟨by omega, by omega⟩, by omega, le_of [0, 1, 6] ?_⟩
      simp [renL_free _ r hbr, belL_up _ r hbr, renL_free _ fl hfb, belL_up _ fl hfb]
      omega
  · rw [List.length_map]
    cases hn : rows with
    | nil =>
      simp -implicitDefEqProofs [apF]
      exact .nil _ _
    | cons r0 rs =>
      simp -implicitDefEqProofs [apF]
      refine seals_ow (rows := r0 :: rs) rfl rfl (fun r hr => hz r (by rw [hn]; exact hr)) (by rw [← hn]; exact hbel)
end Go.Proofs.Ytebjcocmnigjeaa

/-
  Trees walked: Walk, and the document's.
-/
namespace Go.Proofs.Ytebjcocmnigjeaa
open Go.Ev
open Go.Aw (tiOf fieldsOf)

def itN (n : Nd) : D := .fn (.func 87) [] [.ps none (rowN n) 0, .ps none [.lit (.int .i64 200)] 0]
theorem collect_ok (n : Nd) (hl : (walkL n 200).length ≤ 1000000) : FnO Try.prog 56 [itN n] (.ret (.sq false 5 (rowsN (walkL n 200)))) := by
  have hit := nodes1_ok n 200 (by omega)
  have e : ((walkL n 200).map fun x => [D.agg (rowN x)]) = (rowsN (walkL n 200)).map fun r => [D.agg r] := by rw [rowsN_map, List.map_map]; rfl
  rw [e] at hit
  have h86 := appendSeq_ok (by simp) (rowsN_rows _) (rowsN_bel _) (by simpa using hl) hit
  have ht := tbC_ok (P := Try.prog) (g := 86) (f := ctr (fun _ : Unit => [D.lit (.slice none 0 0), itN n]) (fun _ => True) (fun _ => .sq false 5 (rowsN (walkL n 200)))) (ctr_ok fun _ _ => ⟨h86, by simp [itN], by simp⟩) (tb0_ok _)
  have e2 : ctr (fun _ : Unit => [D.lit (.slice none 0 0), itN n]) (fun _ => True) (fun _ => D.sq false 5 (rowsN (walkL n 200))) [.lit (.slice none 0 0), itN n] = some (True, .sq false 5 (rowsN (walkL n 200))) := ctr_enc (fun _ _ _ => rfl) ()
  refine fnO_wp ht fol Try.func56 rfl (by kernel_rfl) (by simp [Try.ntmps56, itN]) (by kernel_rfl) fun I => ?_
  simp only [itN] at e2 ⊢
  simp -implicitDefEqProofs [Try.ntmps56, e2]
  exact .same _ (by simp)

noncomputable def noT : List D → Option (Prop × D) := ctr (fun n : Nd => [.agg (rowN n), .lit (.int .i64 200)]) (fun _ => True) itN
theorem noT_eq (n : Nd) : noT [.agg (rowN n), .lit (.int .i64 200)] = some (True, .fn (.func 87) [] [.ps none (rowN n) 0, .ps none [.lit (.int .i64 200)] 0]) :=
  ctr_enc (fun a b h => by simp at h; exact rowN_inj _ _ h) n
noncomputable def coT : List D → Option (Prop × D) := ctr (fun n : Nd => [itN n]) (fun n => (walkL n 200).length ≤ 1000000) (fun n => .sq false 5 (rowsN (walkL n 200)))
theorem coT_eq (n : Nd) : coT [.fn (.func 87) [] [.ps none (rowN n) 0, .ps none [.lit (.int .i64 200)] 0]] = some ((walkL n 200).length ≤ 1000000, .sq false 5 (rowsN (walkL n 200))) :=
  ctr_enc (fun a b h => by simp [itN] at h; exact rowN_inj _ _ h) n

set_option maxRecDepth 10000 in
theorem walkT_ok (n : Nd) (hl : (walkL n 200).length ≤ 1000000) : FnO Try.prog 18 [.agg (rowN n)] (.ret (.sq false 5 (rowsN (walkL n 200)))) := by
  have ht := tbC_ok (P := Try.prog) (g := 57) (f := noT) (ctr_ok fun n _ => ⟨nodes_ok n 200, by simp, by simp [itN]⟩) (tbC_ok (g := 56) (f := coT) (ctr_ok fun n hn => ⟨collect_ok n hn, by simp [itN], by simp⟩) (tb0_ok _))
  refine fnO_wp ht fol Try.func18 rfl (by kernel_rfl) (by simp [Try.ntmps18]) (by kernel_rfl) fun I => ?_
  simp -implicitDefEqProofs [Try.ntmps18, noT_eq, coT_eq, hl]
  exact .same _ (by simp)

/-! ### The document's -/
noncomputable def rwT (most : Int) (l : List Nd) : List D → Option (Prop × D) := ctr (fun n : Nd => [.agg (rowN n), .lit (.int .i64 most)]) (fun n => (n ∈ l ∧ 0 < most) ∧ (walkL n most).length ≤ 1000000) (fun n => .sq false 5 (rowsN (walkL n most)))
theorem rwT_eq (most : Int) (l : List Nd) (n : Nd) : rwT most l [.agg (rowN n), .lit (.int .i64 most)] = some ((n ∈ l ∧ 0 < most) ∧ (walkL n most).length ≤ 1000000, .sq false 5 (rowsN (walkL n most))) :=
  ctr_enc (fun a b h => by simp at h; exact rowN_inj _ _ h) n

theorem flatN_cons (x : Nd) (r : List Nd) : flatN (x :: r) = rowN x ++ flatN r := by simp [flatN, rowsN]
theorem flatN_fold (l : List Nd) : (rowsN l).flatten = flatN l := rfl

def rwF (n : Nd) (most : Int) (l : List Nd) : Nat → S
  | 0 => S.mk 31 [(1, .lit (.int .i64 most)), (2, .pt 0 0), (5, .sl 1 0 1 (some 1)), (6, .lit (.int .i64 0))] [(0, .cells 26 none (rowN n)), (1, .cells 26 none (rowN n))] 2 [] none []
  | i + 1 => S.mk 31 [(1, .lit (.int .i64 most)), (2, .pt 0 0), (5, .ow 2 (1 + (walksL (l.take (i + 1)) (most - 1)).length)), (6, .lit (.int .i64 (i + 1 : Nat)))] [(0, .cells 26 none (rowN n)), (2, .cells 26 (some 5) (flatN (n :: walksL (l.take (i + 1)) (most - 1))))] 3 [] none []

set_option maxHeartbeats 1000000 in
set_option maxRecDepth 10000 in
theorem refWalk_ok : ∀ (n : Nd) (most : Int) (hm : -9223372036854775808 < most ∧ most ≤ 9223372036854775807), fewN n = true → (walkL n most).length ≤ 1000000 → FnO Try.prog 58 [.agg (rowN n), .lit (.int .i64 most)] (.ret (.sq false 5 (rowsN (walkL n most))))
  | .mk k a b t l, most, hm, hn, hl => by
    simp only [fewN, Bool.and_eq_true, decide_eq_true_eq] at hn
    obtain ⟨_, hlen, hfew⟩ := hn
    have hfl : ∀ x ∈ l, fewN x = true := fun x hx => by
      obtain ⟨i, hi, rfl⟩ := List.mem_iff_getElem.mp hx
      exact fewL_get l i hi hfew
    have ht := tbC_ok (P := Try.prog) (g := 58) (f := rwT (most - 1) l) (ctr_ok fun x hx => ⟨refWalk_ok x (most - 1) (by omega) (hfl x hx.1.1) hx.2, by simp, by simp⟩) (tb0_ok _)
    refine fnO_wp ht fol Try.func58 rfl (by kernel_rfl) (by simp [Try.ntmps58]) (by kernel_rfl) fun I => ?_
    simp -implicitDefEqProofs [Try.ntmps58, rowN]
    refine w_loop (fun i : { i : Nat // i ≤ l.length ∧ (0 < i → 1 < most) } => rwF (.mk k a b t l) most l i.1) (fun i => l.length - i.1) ⟨0, Nat.zero_le _, fun h => by omega⟩ (le_of [0, 1] (by simp [rwF, rowN])) fun ⟨i, hi, h1m⟩ => wp_ok ht fol _ _ _ (by kernel_rfl) ?_
    have hmo2 : most > 1 → (walkL (.mk k a b t l) most).length = 1 + (walksL l (most - 1)).length := fun h => by
      rw [walkL, if_pos h, List.length_cons, Nat.add_comm]
    by_cases hil : i < l.length
    · by_cases hmo : most > 1
      · have hw : IntKind.i64.wrap (most - 1) = most - 1 := wrap64 (by omega) (by omega)
        have hw2 : IntKind.i64.wrap ((i : Int) + 1) = (i : Int) + 1 := wrap64 (by omega) (by omega)
        have hmo' : 1 < most := hmo
        have hln := walksL_take (most - 1) l i hil
        have hln2 : (walksL (l.take (i + 1)) (most - 1)).length ≤ (walksL l (most - 1)).length := by
          conv => rhs; rw [← List.take_append_drop (i + 1) l]
          rw [walksL_append, List.length_append]
          omega
        have hpos : 0 < (walkL l[i] (most - 1)).length := by
          cases l[i]
          simp [walkL]
        have hap : walksL (l.take (i + 1)) (most - 1) = walksL (l.take i) (most - 1) ++ walkL l[i] (most - 1) := by
          rw [List.take_succ_eq_append_getElem hil, walksL_append]
          simp [walksL]
        have h2 := hmo2 hmo
        rw [h2] at hl
        cases i with
        | zero =>
          simp only [List.take_zero, walksL, List.nil_append, List.length_nil, Nat.zero_add] at hap hln hln2
          rw [hap] at hln2
          simp -implicitDefEqProofs [rwF, rowN, hil, hmo, hmo', hw, rwT_eq]
          refine ⟨by omega, ⟨rowsN_rows _, by omega, by omega, by omega⟩, 1, le_of [0, 1, 2] ?_, by omega, by omega⟩
          simp [hap, flatN_cons, flatN_fold, rowN]
        | succ i =>
          have hic : (i : Int) + 1 < (l.length : Int) := by omega
          have hw2 : IntKind.i64.wrap ((i : Int) + 1 + 1) = (i : Int) + 1 + 1 := wrap64 (by omega) (by omega)
          simp -implicitDefEqProofs [rwF, rowN, hil, hic, hmo, hmo', hw, hw2, rwT_eq]
          refine ⟨by omega, by omega, ⟨rowsN_rows _, by omega, by omega, by omega⟩, i + 1 + 1, le_of [0, 1, 3] ?_, by omega, by omega⟩
          simp [hap, flatN_cons, flatN_append, flatN_fold, rowN, Nat.add_assoc]
      · have hmo' : ¬ 1 < most := hmo
        cases i with
        | zero =>
          simp -implicitDefEqProofs [rwF, rowN, hil, hmo, hmo']
          rw [walkL, if_neg hmo]
          exact seals_sl (ty := 26) (op := none) (rows := rowsN [.mk k a b t l]) (by simp [rowsN, rowN, lk]) rfl (rowsN_rows _) (by simp)
        | succ i => exact absurd (h1m (by omega)) hmo'
    · cases i with
      | zero =>
        have h0 : l.length = 0 := by omega
        have : l = [] := List.eq_nil_of_length_eq_zero h0
        subst this
        simp -implicitDefEqProofs [rwF, rowN]
        have : walkL (.mk k a b t []) most = [.mk k a b t []] := by simp [walkL, walksL]
        rw [this]
        exact seals_sl (ty := 26) (op := none) (rows := rowsN [.mk k a b t []]) (by simp [rowsN, rowN, lk]) rfl (rowsN_rows _) (by simp)
      | succ i =>
        have hmo : most > 1 := h1m (by omega)
        have h0 : l.length = i + 1 := by omega
        simp -implicitDefEqProofs [rwF, rowN, h0]
        have e2 : l.take (i + 1) = l := List.take_of_length_le (by omega)
        rw [e2, walkL, if_pos hmo]
        exact seals_ow (rows := rowsN (.mk k a b t l :: walksL l (most - 1))) rfl (by simp; omega) (rowsN_rows _) (by simp)
termination_by n => SizeOf.sizeOf n
decreasing_by
  have := List.sizeOf_lt_of_mem hx.1.1
  simp
  omega

noncomputable def rwT2 : List D → Option (Prop × D) := ctr (fun n : Nd => [.agg (rowN n), .lit (.int .i64 200)]) (fun n => fewN n = true ∧ (walkL n 200).length ≤ 1000000) (fun n => .sq false 5 (rowsN (walkL n 200)))
theorem rwT2_eq (n : Nd) : rwT2 [.agg (rowN n), .lit (.int .i64 200)] = some (fewN n = true ∧ (walkL n 200).length ≤ 1000000, .sq false 5 (rowsN (walkL n 200))) :=
  ctr_enc (fun a b h => by simp at h; exact rowN_inj _ _ h) n
set_option maxRecDepth 10000 in
theorem refWalkT_ok (n : Nd) (hn : fewN n = true) (hl : (walkL n 200).length ≤ 1000000) : FnO Try.prog 19 [.agg (rowN n)] (.ret (.sq false 5 (rowsN (walkL n 200)))) := by
  have ht := tbC_ok (P := Try.prog) (g := 58) (f := rwT2) (ctr_ok fun n hn => ⟨refWalk_ok n 200 (by omega) hn.1 hn.2, by simp, by simp⟩) (tb0_ok _)
  refine fnO_wp ht fol Try.func19 rfl (by kernel_rfl) (by simp [Try.ntmps19]) (by kernel_rfl) fun I => ?_
  simp -implicitDefEqProofs [Try.ntmps19, rwT2_eq, hn, hl]
  exact .same _ (by simp)
end Go.Proofs.Ytebjcocmnigjeaa
