/-
  The document's: what fits what.
-/
import Derived.Test.YthlebppdhipanaaShVx
import Derived.Test.YthlebppdhipanaaShMy
set_option linter.all false
namespace Go.Proofs.Ythlebppdhipanaa
open Go.Ev
open Go.Aw (tiOf fieldsOf sB)

/-! ### A field -/
def fieldD (a : Sh) (n : ByteArray) : D := match idxO a.names n with
  | some j => .tup [.agg (rowS (kid a j)), .lit (.bool true)]
  | none => .tup [.agg zrow, .lit (.bool false)]
theorem idxO_first {ns : List ByteArray} {n : ByteArray} {i : Nat} (h : i < ns.length) (hn : ns[i] = n) (hb : ∀ j (h : j < ns.length), j < i → ¬ ns[j] = n) : idxO ns n = some i := by
  unfold idxO
  rw [List.findIdx?_eq_some_iff_getElem]
  exact ⟨h, by simpa using hn, fun j hj => by simpa using hb j (by omega) hj⟩
theorem idxO_no {ns : List ByteArray} {n : ByteArray} (hb : ∀ j (h : j < ns.length), ¬ ns[j] = n) : idxO ns n = none := by
  unfold idxO
  rw [List.findIdx?_eq_none_iff]
  intro x hx
  obtain ⟨j, hj, rfl⟩ := List.mem_iff_getElem.1 hx
  simpa using hb j hj
set_option maxHeartbeats 1000000 in
set_option maxRecDepth 10000 in
theorem field_ok (a : Sh) (n : ByteArray) (hl : a.names.length ≤ 1000000) (hk : a.names.length ≤ a.kids.length) : FnO Try.prog 71 [.agg (rowS a), .lit (.string n)] (.ret (fieldD a n)) := by
  have ht := tb0_ok Try.prog
  refine fnO_wx ht fol Try.func71 rfl (by kernel_rfl) (by simp [Try.ntmps71]) (by kernel_rfl) fun I => ?_
  simp -implicitDefEqProofs [Try.ntmps71]
  refine w_loop (fun i : { i : Nat // i ≤ a.names.length ∧ ∀ j (h : j < a.names.length), j < i → ¬ a.names[j] = n } => S.mk 27 [(1, .lit (.string n)), (2, .pt 0 0), (4, .pt 1 0), (5, .lit (.bool false)), (6, .lit (.int .i64 i.1))] [(0, .cells 25 none (rowS a)), (1, .cells 25 none [.lit (.int .i64 0), .lit (.slice none 0 0), .lit (.slice none 0 0)])] 2 [] none []) (fun i => a.names.length - i.1) ⟨0, Nat.zero_le _, fun j _ h => by omega⟩ (le_of [0, 1] (by simp)) fun ⟨i, hi, hall⟩ => wx_ok ht fol _ _ _ (by kernel_rfl) ?_
  have hw : IntKind.i64.wrap ((i : Int) + 1) = (i : Int) + 1 := wrap64 (by omega) (by omega)
  by_cases hil : i < a.names.length
  · have hik : i < a.kids.length := by omega
    have hik' : (i : Int) < (a.kids.length : Int) := by omega
    simp -implicitDefEqProofs [hil, hw, hik, hik']
    refine ⟨fun h => ?_, fun h => ⟨i + 1, le_of [0, 1] (by simp), ⟨by omega, fun j hj hlt => ?_⟩, by omega⟩⟩
    · have e : fieldD a n = .tup [.agg (rowS a.kids[i]), .lit (.bool true)] := by
        rw [fieldD, idxO_first hil h hall]; simp only [kid_eq hik]
      rw [e]
      exact .same _ (by simp)
    · by_cases h7 : j = i
      · subst h7; exact h
      · exact hall j hj (by omega)
  · have : i = a.names.length := by omega
    subst this
    simp -implicitDefEqProofs
    have e : fieldD a n = .tup [.agg zrow, .lit (.bool false)] := by
      rw [fieldD, idxO_no fun j hj => hall j hj hj]
    rw [e]
    exact .same _ (by simp [zrow])
noncomputable def flT : List D → Option (Prop × D) := ctr (fun p : Sh × ByteArray => [.agg (rowS p.1), .lit (.string p.2)]) (fun p => p.1.names.length ≤ 1000000 ∧ p.1.names.length ≤ p.1.kids.length) (fun p => fieldD p.1 p.2)
theorem flT_eq (a : Sh) (n : ByteArray) : flT [.agg (rowS a), .lit (.string n)] = some (a.names.length ≤ 1000000 ∧ a.names.length ≤ a.kids.length, fieldD a n) := ctr_enc (fun x y h => by simp at h; exact Prod.ext (rowS_inj _ _ h.1) h.2) (a, n)
theorem fieldD_bel (a : Sh) (n : ByteArray) : D.bel 0 (fieldD a n) = true := by
  unfold fieldD
  split <;> simp [zrow]
theorem flT_ok : ∀ xs p d, flT xs = some (p, d) → p → FnO Try.prog 71 xs (.ret d) ∧ D.belL 0 xs = true ∧ D.bel 0 d = true :=
  ctr_ok fun p hp => ⟨field_ok p.1 p.2 hp.1 hp.2, by simp, fieldD_bel _ _⟩

/-! ### Fits -/
def RF (x y : Sh) : Prop := FnO Try.prog 41 [.agg (rowS x), .agg (rowS y)] (.ret (.lit (.bool (fitsS x y))))
noncomputable def rfT (q : Sh → Sh → Prop) : List D → Option (Prop × D) := sh2T q (fun x y => .lit (.bool (fitsS x y)))
theorem rfT_eq (q : Sh → Sh → Prop) (x y : Sh) : rfT q [.agg (rowS x), .agg (rowS y)] = some (q x y, .lit (.bool (fitsS x y))) := sh2T_eq _ _ x y
theorem rfT_ok {q : Sh → Sh → Prop} (h : ∀ x y, q x y → RF x y) : ∀ xs p d, rfT q xs = some (p, d) → p → FnO Try.prog 41 xs (.ret d) ∧ D.belL 0 xs = true ∧ D.bel 0 d = true := sh2T_ok h (by simp)

set_option maxHeartbeats 4000000 in
set_option maxRecDepth 20000 in
theorem rfitsDyn_ok (a b : Sh) (ha : rightS a = true) (hb : rightS b = true) (h : a.kind = 1 ∨ b.kind = 1) : RF a b := by
  have e := fit_dyn ha hb h
  refine fnO_wx (tb0_ok _) fol Try.func41 rfl (by kernel_rfl) (by simp [Try.ntmps41]) (by kernel_rfl) fun I => ?_
  by_cases h1 : a.kind = 1
  · simp -implicitDefEqProofs [Try.ntmps41, h1]
    exact seals_bool e
  · have h2 : b.kind = 1 := h.resolve_left h1
    have h1b : (a.kind == 1) = false := by simpa using h1
    simp -implicitDefEqProofs [Try.ntmps41, h1b, h2]
    exact seals_bool e

def rfS (a b : Sh) (tm : List (Nat × D)) : S := S.mk 135 ([(2, .pt 0 0), (3, .pt 1 0), (4, .lit (.bool false))] ++ tm) [(0, .cells 25 none (rowS a)), (1, .cells 25 none (rowS b))] 2 [] none []

set_option maxHeartbeats 4000000 in
set_option maxRecDepth 20000 in
theorem rfitsOrL_ok (a b : Sh) (ha : rightS a = true) (hb : rightS b = true) (la : limP a) (hN : ∀ x ∈ a.kids, RF x b) (h : ¬ (a.kind = 1 ∨ b.kind = 1)) (h8 : a.kind = 8) : RF a b := by
  have e := fit_orL ha hb h h8
  have ht := tbC_ok (rfT_ok (q := fun x y => x ∈ a.kids ∧ y = b) (fun x y h => by rw [h.2]; exact hN x h.1)) (tb0_ok _)
  have h1b : (a.kind == 1) = false := by simpa using fun q => h (.inl q)
  have h2b : (b.kind == 1) = false := by simpa using fun q => h (.inr q)
  have hl := (lim_len la).1
  refine fnO_wx ht fol Try.func41 rfl (by kernel_rfl) (by simp [Try.ntmps41]) (by kernel_rfl) fun I => ?_
  simp -implicitDefEqProofs [Try.ntmps41, h1b, h2b, h8]
  refine w_loop (fun i : { i : Nat // i ≤ a.kids.length ∧ ∀ j (h : j < a.kids.length), j < i → fitsS a.kids[j] b = true } => rfS a b [(5, .lit (.int .i64 i.1))]) (fun i => a.kids.length - i.1) ⟨0, Nat.zero_le _, fun j _ h => by omega⟩ (le_of [0, 1] (by simp [rfS])) fun ⟨i, hi, hall⟩ => wx_ok ht fol _ _ _ (by kernel_rfl) ?_
  have hw : IntKind.i64.wrap ((i : Int) + 1) = (i : Int) + 1 := wrap64 (by omega) (by omega)
  by_cases hil : i < a.kids.length
  · have hm : a.kids[i] ∈ a.kids := List.getElem_mem hil
    simp -implicitDefEqProofs [rfS, hil, hw, rfT_eq, hm]
    refine ⟨fun h5 => seals_bool ?_, fun h5 => ⟨i + 1, le_of [0, 1] (by simp), ⟨by omega, fun j hj hlt => ?_⟩, by omega⟩⟩
    · cases hf : fitsS a b with
      | false => rfl
      | true => rw [e.1 hf _ hm] at h5; cases h5
    · by_cases h7 : j = i
      · subst h7; exact h5
      · exact hall j hj (by omega)
  · have : i = a.kids.length := by omega
    subst this
    simp -implicitDefEqProofs [rfS]
    exact seals_bool (e.2 fun x hx => by
      obtain ⟨j, hj, rfl⟩ := List.mem_iff_getElem.1 hx
      exact hall j hj hj)

set_option maxHeartbeats 4000000 in
set_option maxRecDepth 20000 in
theorem rfitsOrR_ok (a b : Sh) (ha : rightS a = true) (hb : rightS b = true) (lb : limP b) (hN : ∀ x ∈ b.kids, RF a x) (h : ¬ (a.kind = 1 ∨ b.kind = 1)) (h8 : ¬ a.kind = 8) (h9 : b.kind = 8) : RF a b := by
  have e := fit_orR ha hb h h8 h9
  have ht := tbC_ok (rfT_ok (q := fun x y => x = a ∧ y ∈ b.kids) (fun x y h => by rw [h.1]; exact hN y h.2)) (tb0_ok _)
  have h1b : (a.kind == 1) = false := by simpa using fun q => h (.inl q)
  have h2b : (b.kind == 1) = false := by simpa using fun q => h (.inr q)
  have h3b : (a.kind == 8) = false := by simpa using h8
  have hl := (lim_len lb).1
  refine fnO_wx ht fol Try.func41 rfl (by kernel_rfl) (by simp [Try.ntmps41]) (by kernel_rfl) fun I => ?_
  simp -implicitDefEqProofs [Try.ntmps41, h1b, h2b, h3b, h9]
  refine w_loop (fun i : { i : Nat // i ≤ b.kids.length ∧ ∀ j (h : j < b.kids.length), j < i → fitsS a b.kids[j] = false } => rfS a b [(6, .lit (.int .i64 i.1))]) (fun i => b.kids.length - i.1) ⟨0, Nat.zero_le _, fun j _ h => by omega⟩ (le_of [0, 1] (by simp [rfS])) fun ⟨i, hi, hall⟩ => wx_ok ht fol _ _ _ (by kernel_rfl) ?_
  have hw : IntKind.i64.wrap ((i : Int) + 1) = (i : Int) + 1 := wrap64 (by omega) (by omega)
  by_cases hil : i < b.kids.length
  · have hm : b.kids[i] ∈ b.kids := List.getElem_mem hil
    simp -implicitDefEqProofs [rfS, hil, hw, rfT_eq, hm]
    refine ⟨fun h5 => seals_bool (e.2 ⟨_, hm, h5⟩), fun h5 => ⟨i + 1, le_of [0, 1] (by simp), ⟨by omega, fun j hj hlt => ?_⟩, by omega⟩⟩
    by_cases h7 : j = i
    · subst h7; exact h5
    · exact hall j hj (by omega)
  · have : i = b.kids.length := by omega
    subst this
    simp -implicitDefEqProofs [rfS]
    refine seals_bool ?_
    cases hf : fitsS a b with
    | false => rfl
    | true =>
      obtain ⟨x, hx, h5⟩ := e.1 hf
      obtain ⟨j, hj, rfl⟩ := List.mem_iff_getElem.1 hx
      rw [hall j hj hj] at h5; cases h5

set_option maxHeartbeats 4000000 in
set_option maxRecDepth 20000 in
theorem rfitsLow_ok (a b : Sh) (ha : rightS a = true) (hb : rightS b = true) (h : ¬ (a.kind = 1 ∨ b.kind = 1)) (h8 : ¬ a.kind = 8) (h9 : ¬ b.kind = 8) (hl : a.kind ≠ b.kind ∨ a.kind < 6) : RF a b := by
  have ht := tb0_ok Try.prog
  have h1b : (a.kind == 1) = false := by simpa using fun q => h (.inl q)
  have h2b : (b.kind == 1) = false := by simpa using fun q => h (.inr q)
  have h3b : (a.kind == 8) = false := by simpa using h8
  have h4b : (b.kind == 8) = false := by simpa using h9
  refine fnO_wx ht fol Try.func41 rfl (by kernel_rfl) (by simp [Try.ntmps41]) (by kernel_rfl) fun I => ?_
  by_cases hq : a.kind = b.kind
  · have hlt : a.kind < 6 := by omega
    have e := fit_low ha hb h hq hlt
    have ka := right_low ha (by omega)
    have kb := right_low hb (by omega)
    have hq2 : (a.kind != b.kind) = false := by simpa using hq
    have h6b : (a.kind == 6) = false := by simp; omega
    simp -implicitDefEqProofs [Try.ntmps41, h1b, h2b, h3b, h4b, hq2, h6b, ka, kb]
    have hwm : IntKind.i64.wrap (-1) = -1 := rfl
    refine w_loop (fun i : { i : Nat // i = 0 } => rfS a b [(10, .lit (.int .i64 0)), (11, .lit (.int .i64 0))]) (fun i => i.1) ⟨0, rfl⟩ (le_of [0, 1] (by simp [rfS])) fun ⟨i, hi⟩ => wx_ok ht fol _ _ _ (by kernel_rfl) ?_
    simp -implicitDefEqProofs [rfS, hwm]
    exact seals_bool e
  · have hq2 : (a.kind != b.kind) = true := by simpa using hq
    simp -implicitDefEqProofs [Try.ntmps41, h1b, h2b, h3b, h4b, hq2]
    refine seals_bool ?_
    cases hf : fitsS a b with
    | false => rfl
    | true => exact absurd (fit_kind ha hb h h8 h9 hf) hq

set_option maxHeartbeats 4000000 in
set_option maxRecDepth 20000 in
theorem rfitsRec_ok (a b : Sh) (ha : rightS a = true) (hb : rightS b = true) (la : limP a) (lb : limP b) (hN : ∀ x ∈ a.kids, ∀ y ∈ b.kids, RF x y) (h6 : a.kind = 6) (h6b : b.kind = 6) : RF a b := by
  have e := fit_rec ha hb h6 h6b
  have ra := right_rec ha h6
  have rb := right_rec hb h6b
  have ht := tbC_ok flT_ok (tbC_ok (rfT_ok (q := fun x y => x ∈ a.kids ∧ y ∈ b.kids) (fun x y h => hN x h.1 y h.2)) (tb0_ok _))
  obtain ⟨na1, na2, _⟩ := lim_len la
  obtain ⟨nb1, nb2, _⟩ := lim_len lb
  have f1 : a.names.length ≤ 1000000 := by omega
  have f2 : a.names.length ≤ a.kids.length := by omega
  refine fnO_wx ht fol Try.func41 rfl (by kernel_rfl) (by simp [Try.ntmps41]) (by kernel_rfl) fun I => ?_
  simp -implicitDefEqProofs [Try.ntmps41, h6, h6b]
  refine w_loop (fun i : { i : Nat // i ≤ b.names.length ∧ ∀ j (h : j < b.names.length), j < i → ∃ m, idxO a.names b.names[j] = some m ∧ fitsS (kid a m) (kid b j) = true } => rfS a b [(7, .lit (.int .i64 i.1))]) (fun i => b.names.length - i.1) ⟨0, Nat.zero_le _, fun j _ h => by omega⟩ (le_of [0, 1] (by simp [rfS])) fun ⟨i, hi, hall⟩ => wx_ok ht fol _ _ _ (by kernel_rfl) ?_
  have hw : IntKind.i64.wrap ((i : Int) + 1) = (i : Int) + 1 := wrap64 (by omega) (by omega)
  by_cases hil : i < b.names.length
  · have hik : i < b.kids.length := by omega
    have hik' : (i : Int) < (b.kids.length : Int) := by omega
    have hm : b.kids[i] ∈ b.kids := List.getElem_mem hik
    cases hx : idxO a.names b.names[i] with
    | none =>
      have ef : fieldD a b.names[i] = .tup [.agg zrow, .lit (.bool false)] := by rw [fieldD, hx]
      simp -implicitDefEqProofs [rfS, hil, hw, flT_eq, f1, f2, ef, zrow]
      refine seals_bool ?_
      cases hf : fitsS a b with
      | false => rfl
      | true =>
        obtain ⟨m, hm, _⟩ := e.1 hf i hil
        rw [hx] at hm; cases hm
    | some m =>
      obtain ⟨hml, _⟩ := idxO_lt hx
      have hmk : m < a.kids.length := by omega
      have ef : fieldD a b.names[i] = .tup [.agg (rowS (kid a m)), .lit (.bool true)] := by rw [fieldD, hx]
      have hma : kid a m ∈ a.kids := kid_mem hmk
      simp -implicitDefEqProofs [rfS, hil, hw, flT_eq, f1, f2, ef, hik, hik', rfT_eq, hm, hma]
      refine ⟨fun h5 => seals_bool ?_, fun h5 => ⟨i + 1, le_of [0, 1] (by simp), ⟨by omega, fun j hj hlt => ?_⟩, by omega⟩⟩
      · cases hf : fitsS a b with
        | false => rfl
        | true =>
          obtain ⟨m', hm', h9⟩ := e.1 hf i hil
          rw [hx] at hm'
          cases hm'
          rw [kid_eq hik, h5] at h9; cases h9
      · by_cases h7 : j = i
        · subst h7; exact ⟨m, hx, by rw [kid_eq hik]; exact h5⟩
        · exact hall j hj (by omega)
  · have : i = b.names.length := by omega
    subst this
    simp -implicitDefEqProofs [rfS]
    exact seals_bool (e.2 fun j hj => hall j hj hj)

set_option maxHeartbeats 4000000 in
set_option maxRecDepth 20000 in
theorem rfitsFun_ok (a b : Sh) (ha : rightS a = true) (hb : rightS b = true) (la : limP a) (hN : ∀ x y, (x ∈ a.kids ∧ y ∈ b.kids) ∨ (x ∈ b.kids ∧ y ∈ a.kids) → RF x y) (h7 : a.kind = 7) (h7b : b.kind = 7) : RF a b := by
  have e := fit_fun ha hb h7 h7b
  have h0 := right_fun ha h7
  have ht := tbC_ok (rfT_ok (q := fun x y => (x ∈ a.kids ∧ y ∈ b.kids) ∨ (x ∈ b.kids ∧ y ∈ a.kids)) hN) (tb0_ok _)
  obtain ⟨na1, _, _⟩ := lim_len la
  refine fnO_wx ht fol Try.func41 rfl (by kernel_rfl) (by simp [Try.ntmps41]) (by kernel_rfl) fun I => ?_
  by_cases hl : a.kids.length = b.kids.length
  · obtain ⟨n, hn⟩ : ∃ n, a.kids.length = n + 1 := ⟨a.kids.length - 1, by omega⟩
    have hnb : b.kids.length = n + 1 := by omega
    have e1 : IntKind.i64.wrap ((n : Int) + 1 - 1) = (n : Int) := by rw [wrap64 (by omega) (by omega)]; omega
    have e1' : IntKind.i64.wrap (n : Int) = (n : Int) := wrap64 (by omega) (by omega)
    have hn0 : ((n : Int) + 1 == 0) = false := by simp; omega
    simp -implicitDefEqProofs [Try.ntmps41, h7, h7b, hn, hnb]
    refine w_loop (fun i : { i : Nat // i ≤ n ∧ ∀ j, j < n → j < i → fitsS (kid b j) (kid a j) = true } => rfS a b [(10, .lit (.int .i64 ((n : Int) + 1))), (11, .lit (.int .i64 i.1))]) (fun i => n - i.1) ⟨0, Nat.zero_le _, fun j _ h => by omega⟩ (le_of [0, 1] (by simp [rfS])) fun ⟨i, hi, hall⟩ => wx_ok ht fol _ _ _ (by kernel_rfl) ?_
    have hw : IntKind.i64.wrap ((i : Int) + 1) = (i : Int) + 1 := wrap64 (by omega) (by omega)
    by_cases hil : i < n
    · have h1 : i < a.kids.length := by omega
      have h2 : i < b.kids.length := by omega
      have h1' : (i : Int) < (n : Int) + 1 := by omega
      have h3 : i < n + 1 := by omega
      have hma : a.kids[i] ∈ a.kids := List.getElem_mem h1
      have hmb : b.kids[i] ∈ b.kids := List.getElem_mem h2
      simp -implicitDefEqProofs [rfS, hil, hw, e1, e1', hn, hnb, h1, h2, h3, h1', rfT_eq, hma, hmb]
      refine ⟨fun h5 => seals_bool ?_, fun h5 => ⟨i + 1, le_of [0, 1] (by simp), ⟨by omega, fun j hj hlt => ?_⟩, by omega⟩⟩
      · cases hf : fitsS a b with
        | false => rfl
        | true =>
          have := (e.1 hf).2.1 i (by omega)
          rw [kid_eq h1, kid_eq h2, h5] at this; cases this
      · by_cases h9 : j = i
        · subst h9; rw [kid_eq h1, kid_eq h2]; exact h5
        · exact hall j hj (by omega)
    · have : i = n := by omega
      subst this
      have h1 : i < a.kids.length := by omega
      have h2 : i < b.kids.length := by omega
      have h1' : (i : Int) < (i : Int) + 1 := by omega
      have hma : a.kids[i] ∈ a.kids := List.getElem_mem h1
      have hmb : b.kids[i] ∈ b.kids := List.getElem_mem h2
      simp -implicitDefEqProofs [rfS, e1, e1', hn, hnb, hn0, h1, h2, h1', rfT_eq, hma, hmb]
      refine seals_bool ?_
      have hk : a.kids.length - 1 = i := by omega
      rw [Bool.eq_iff_iff, e, hk, kid_eq h1, kid_eq h2]
      exact ⟨fun h => h.2.2, fun h => ⟨hl, fun j hj => hall j (by omega) (by omega), h⟩⟩
  · have hl' : ((a.kids.length : Int) != (b.kids.length : Int)) = true := by simp; omega
    simp -implicitDefEqProofs [Try.ntmps41, h7, h7b, hl']
    refine seals_bool ?_
    cases hf : fitsS a b with
    | false => rfl
    | true => exact absurd (e.1 hf).1 hl

theorem rfits_ok : ∀ (N : Nat) (a b : Sh), rightS a = true → rightS b = true → limP a → limP b → sz a + sz b ≤ N → RF a b
  | 0, a, b, _, _, _, _, h => by have := sz_pos a; omega
  | N + 1, a, b, ha, hb, la, lb, hs => by
    have ih := rfits_ok N
    by_cases h : a.kind = 1 ∨ b.kind = 1
    · exact rfitsDyn_ok a b ha hb h
    by_cases h8 : a.kind = 8
    · exact rfitsOrL_ok a b ha hb la (fun x hx => ih x b (right_kids ha x hx) hb (limP_kid la hx) lb (by have := sz_kid hx; omega)) h h8
    by_cases h9 : b.kind = 8
    · exact rfitsOrR_ok a b ha hb lb (fun x hx => ih a x ha (right_kids hb x hx) la (limP_kid lb hx) (by have := sz_kid hx; omega)) h h8 h9
    by_cases hl : a.kind ≠ b.kind ∨ a.kind < 6
    · exact rfitsLow_ok a b ha hb h h8 h9 hl
    have hka := right_kind ha
    have kab : ∀ x ∈ a.kids, ∀ y ∈ b.kids, RF x y := fun x hx y hy => ih x y (right_kids ha x hx) (right_kids hb y hy) (limP_kid la hx) (limP_kid lb hy) (by have := sz_kid hx; have := sz_kid hy; omega)
    have kba : ∀ x ∈ b.kids, ∀ y ∈ a.kids, RF x y := fun x hx y hy => ih x y (right_kids hb x hx) (right_kids ha y hy) (limP_kid lb hx) (limP_kid la hy) (by have := sz_kid hx; have := sz_kid hy; omega)
    by_cases h6 : a.kind = 6
    · exact rfitsRec_ok a b ha hb la lb kab h6 (by omega)
    · exact rfitsFun_ok a b ha hb la (fun x y h => by rcases h with h | h; exact kab x h.1 y h.2; exact kba x h.1 y h.2) (by omega) (by omega)

set_option maxHeartbeats 1000000 in
set_option maxRecDepth 10000 in
theorem rfitsT_ok (a b : Sh) (la : limP a) (lb : limP b) : FnO Try.prog 14 [.agg (rowS a), .agg (rowS b)] (.ret (.lit (.bool (fitsG a b)))) := by
  have ht := tbC_ok (shT_ok rgood_ok (tbool_bel _)) (tbC_ok (rfT_ok (q := fun x y => rightS x = true ∧ rightS y = true ∧ limP x ∧ limP y) (fun x y h => rfits_ok _ x y h.1 h.2.1 h.2.2.1 h.2.2.2 (Nat.le_refl _))) (tb0_ok _))
  refine fnO_wx ht fol Try.func14 rfl (by kernel_rfl) (by simp [Try.ntmps14]) (by kernel_rfl) fun I => ?_
  cases ga : goodS a with
  | false =>
    simp -implicitDefEqProofs [Try.ntmps14, shT_eq, tbool, ga, la]
    exact seals_bool (by simp [fitsG, ga])
  | true =>
  cases gb : goodS b with
  | false =>
    simp -implicitDefEqProofs [Try.ntmps14, shT_eq, tbool, ga, gb, la, lb]
    exact seals_bool (by simp [fitsG, ga, gb])
  | true =>
    have ra := good_right ga
    have rb := good_right gb
    simp -implicitDefEqProofs [Try.ntmps14, shT_eq, rfT_eq, tbool, ga, gb, la, lb, ra, rb]
    exact seals_bool (by simp [fitsG, ga, gb])
end Go.Proofs.Ythlebppdhipanaa

/-
  What is called: the document's.
-/
namespace Go.Proofs.Ythlebppdhipanaa
open Go.Ev
open Go.Aw (tiOf fieldsOf sB)

noncomputable def roT : List D → Option (Prop × D) := ctr (fun l : List Sh => [.sq false 3 (rowsS l)]) (fun l => szs l ≤ 900000 ∧ ∀ s ∈ l, limP s) (fun l => .agg (rowS (orS l)))
theorem roT_eq (l : List Sh) : roT [.sq false 3 (rowsS l)] = some (szs l ≤ 900000 ∧ ∀ s ∈ l, limP s, .agg (rowS (orS l))) := ctr_enc (fun a b h => by simp at h; exact rowsS_inj _ _ h) l
theorem roT_ok : ∀ xs p d, roT xs = some (p, d) → p → FnO Try.prog 32 xs (.ret d) ∧ D.belL 0 xs = true ∧ D.bel 0 d = true :=
  ctr_ok fun l hl => ⟨by rw [← ror_or l hl.2]; exact ror_ok l hl.1 hl.2, by simp, by simp⟩
noncomputable def rfgT : List D → Option (Prop × D) := sh2T (fun a b => limP a ∧ limP b) (fun a b => .lit (.bool (fitsG a b)))
theorem rfgT_eq (a b : Sh) : rfgT [.agg (rowS a), .agg (rowS b)] = some (limP a ∧ limP b, .lit (.bool (fitsG a b))) := sh2T_eq _ _ a b
theorem rfgT_ok : ∀ xs p d, rfgT xs = some (p, d) → p → FnO Try.prog 14 xs (.ret d) ∧ D.belL 0 xs = true ∧ D.bel 0 d = true := sh2T_ok (fun a b h => rfitsT_ok a b h.1 h.2) (by simp)
def badI (l : List Sh) (n : Nat) : Int := if badAr l n then 30 else 0
def rcF2 (args l : List Sh) (i : Nat) : S := S.mk 149 [(1, .sq false 3 (rowsS args)), (4, .pt 0 0), (9, .sq false 3 (rowsS l)), (10, .ow 1 i), (11, .lit (.int .i64 (badI (l.take i) args.length))), (12, .lit (.int .i64 i))]
  [(0, .cells 25 none zrow), (1, .cells 25 (some 3) (rowsS ((l.map resS).take i)).flatten)] 2 [] none []
def rcF3 (args l out : List Sh) (k : Nat) : S := S.mk 149 [(1, .sq false 3 (rowsS args)), (4, .pt 0 0), (9, .sq false 3 (rowsS l)), (10, .sq false 3 (rowsS out)), (13, .ow 1 (missN l (args.take k) 0).length), (14, .lit (.int .i64 k))]
  [(0, .cells 25 none zrow), (1, .cells 3 (some 1) (intsD (missN l (args.take k) 0)).flatten)] 2 [] none []
noncomputable def rcC : Code := match Try.f26.body with
  | some (.seq _ (.seq _ (.seq _ (.seq _ (.seq _ (.seq _ c)))))) => c
  | _ => .skip

set_option maxHeartbeats 4000000 in
set_option maxRecDepth 20000 in
theorem rcall_ok (f : Sh) (args : List Sh) (pf : limP f) (hz : sz f ≤ 900) (pa : ∀ s ∈ args, limP s ∧ sz s ≤ 1000) (hl : args.length ≤ 900) : FnO Try.prog 26 [.agg (rowS f), .sq false 3 (rowsS args)] (.ret (callD (callG f args))) := by
  have ht := tbC_ok (shT_ok rgood_ok (tbool_bel _)) (tbC_ok rkT_ok (tbC_ok roT_ok (tbC_ok rfgT_ok (tb0_ok Try.prog))))
  have pa' : ∀ s ∈ args, limP s := fun s hs => (pa s hs).1
  refine fnO_of Try.func26 rfl (by kernel_rfl) (by simp [Try.ntmps26]) fun I => ?_
  refine w_seq (wx_ok ht fol _ _ _ (by kernel_rfl) ?_)
  simp -implicitDefEqProofs [Try.ntmps26]
  refine w_seq (wx_ok ht fol _ _ _ (by kernel_rfl) ?_)
  simp -implicitDefEqProofs [shT_eq, tbool]
  refine ⟨pf, ?_⟩
  refine w_weaken (s' := S.mk 149 [(1, .sq false 3 (rowsS args)), (2, .pt 0 0), (4, .pt 1 0), (7, .lit (.bool (goodS f)))] [(0, .cells 25 none (rowS f)), (1, .cells 25 none zrow)] 2 [] none []) (le_of [0, 1] (by simp [zrow])) ?_
  refine w_seq (w_seq (wx_ok ht fol _ _ _ (by kernel_rfl) ?_))
  simp -implicitDefEqProofs
  refine wx_ok ht fol _ _ _ (by kernel_rfl) ?_
  simp -implicitDefEqProofs
  refine w_loop (fun i : { i : Nat // i ≤ args.length } => S.mk 149 [(1, .sq false 3 (rowsS args)), (2, .pt 0 0), (4, .pt 1 0), (7, .lit (.bool (goodS f && (args.take i.1).all goodS))), (8, .lit (.int .i64 i.1))] [(0, .cells 25 none (rowS f)), (1, .cells 25 none zrow)] 2 [] none []) (fun i => args.length - i.1) ⟨0, Nat.zero_le _⟩ (le_of [0, 1] (by simp [zrow])) fun ⟨i, hi⟩ => wx_ok ht fol _ _ _ (by kernel_rfl) ?_
  have hw : IntKind.i64.wrap ((i : Int) + 1) = (i : Int) + 1 := wrap64 (by omega) (by omega)
  by_cases hil : i < args.length
  · have hm : args[i] ∈ args := List.getElem_mem hil
    have ht1 : (goodS f && (args.take (i + 1)).all goodS) = ((goodS f && (args.take i).all goodS) && goodS args[i]) := by
      rw [List.take_succ_eq_append_getElem hil, List.all_append]
      simp only [List.all_cons, List.all_nil, Bool.and_true, Bool.and_assoc]
    generalize hb : (goodS f && (args.take i).all goodS) = b at *
    cases b with
    | false =>
      rw [Bool.false_and] at ht1
      simp -implicitDefEqProofs [hil, hw]
      exact ⟨i + 1, le_of [0, 1] (by simp [zrow, ht1]), by omega, by omega⟩
    | true =>
      rw [Bool.true_and] at ht1
      simp -implicitDefEqProofs [hil, hw, shT_eq, tbool]
      exact ⟨pa' _ hm, i + 1, le_of [0, 1] (by simp [zrow, ht1]), by omega, by omega⟩
  · have : i = args.length := by omega
    subst this
    rw [List.take_length]
    cases hg : (goodS f && args.all goodS) with
    | false =>
      have e : callG f args = (.mk 0 [] [], [], 2) := by unfold callG; rw [hg]; rfl
      rw [e]
      simp -implicitDefEqProofs
      refine wx_ok ht fol _ _ _ (by kernel_rfl) ?_
      simp -implicitDefEqProofs [zrow]
      exact seals_tup (sealsL_cons (seals_agg (sealsL_cons (.same _ (by simp)) (sealsL_cons (.nil _ _) (sealsL_cons (.nil _ _) sealsL_nil)))) (sealsL_cons (.nil _ _) (sealsL_cons (.same _ (by simp)) sealsL_nil)))
    | true =>
      have hg2 := hg
      rw [Bool.and_eq_true] at hg2
      obtain ⟨hgf, hga⟩ := hg2
      have hfl : ∀ g ∈ flat1 f, limP g ∧ rightS g = true := fun g hg => flat_good (l := [f]) (fun s hs => by simp at hs; subst hs; exact hgf) (fun s hs => by simp at hs; subst hs; exact pf) g (by rw [flatS_one]; exact hg)
      have hfz : ∀ g ∈ flat1 f, sz g ≤ 900 := fun g hg => by
        have h1 := szs_flat1 f
        have h2 := szs_mem hg
        omega
      have hfs : szs (flat1 f) ≤ 900 := by have := szs_flat1 f; omega
      have hfn : (flat1 f).length ≤ 900 := by have := szs_len (flat1 f); omega
      have hE : callG f args = (if (flat1 f).all callable then
          (if badAr (flat1 f) args.length then (orS ((flat1 f).map resS), [], 30) else (orS ((flat1 f).map resS), missN (flat1 f) args 0, 0))
        else (.mk 0 [] [], [], 180)) := by unfold callG; rw [hg]; rfl
      obtain ⟨res, hres⟩ : ∃ res, res = callG f args := ⟨_, rfl⟩
      rw [← hres]
      rw [hE] at hres
      clear hE
      simp -implicitDefEqProofs
      refine w_seq (wx_ok ht fol _ _ _ (by kernel_rfl) ?_)
      simp -implicitDefEqProofs
      refine w_seq (wx_ok ht fol _ _ _ (by kernel_rfl) ?_)
      simp -implicitDefEqProofs [rkT_eq]
      generalize flat1 f = l at *
      refine w_weaken (s' := S.mk 149 [(1, .sq false 3 (rowsS args)), (4, .pt 0 0), (9, .sq false 3 (rowsS l))] [(0, .cells 25 none zrow)] 1 [] none []) (le_of [1] (by simp [zrow])) ?_
      have hRl : ∀ s ∈ l, rightS s = true := fun s hs => (hfl s hs).2
      have hPl : ∀ s ∈ l, limP s := fun s hs => (hfl s hs).1
      have hKl : ∀ s ∈ l, s.kids.length ≤ 900 := fun s hs => by
        have h1 := szs_len s.kids
        have h2 := sz_eq s
        have h3 := hfz s hs
        omega
      have hwa : IntKind.i64.wrap ((args.length : Int) + 1) = (args.length : Int) + 1 := wrap64 (by omega) (by omega)
      refine w_seq (wx_ok ht fol _ _ _ (by kernel_rfl) ?_)
      simp -implicitDefEqProofs
      refine w_seq (wx_ok ht fol _ _ _ (by kernel_rfl) ?_)
      simp -implicitDefEqProofs
      refine w_seq (w_seq (wx_ok ht fol _ _ _ (by kernel_rfl) ?_))
      simp -implicitDefEqProofs
      refine wx_ok ht fol _ _ _ (by kernel_rfl) ?_
      simp -implicitDefEqProofs
      clear hw hi
      refine w_loop (fun i : { i : Nat // i ≤ l.length ∧ ∀ g ∈ l.take i, callable g = true } => rcF2 args l i.1) (fun i => l.length - i.1) ⟨0, Nat.zero_le _, fun g hg => by simp at hg⟩ ((S.le_nil 10 25 3 rfl).trans (le_of [0, 1] (by simp [rcF2, rowsS, zrow, badI, badAr]))) fun ⟨i, hi, hall⟩ => wx_ok ht fol _ _ _ (by kernel_rfl) ?_
      have hw : IntKind.i64.wrap ((i : Int) + 1) = (i : Int) + 1 := wrap64 (by omega) (by omega)
      have hrs := rowsS_flat ((l.map resS).take i)
      have hml : ((l.map resS).take i).length = i := by simp; omega
      rw [hml] at hrs
      by_cases hil : i < l.length
      · have hm : l[i] ∈ l := List.getElem_mem hil
        have htk : l.take (i + 1) = l.take i ++ [l[i]] := List.take_succ_eq_append_getElem hil
        have ha2 : callable l[i] = true → ∀ g ∈ l.take (i + 1), callable g = true := fun hc g hg => by
          rw [htk, List.mem_append] at hg
          rcases hg with hg | hg
          · exact hall g hg
          · simp at hg; subst hg; exact hc
        have et : (l.map resS).take (i + 1) = (l.map resS).take i ++ [resS l[i]] := by rw [List.take_succ_eq_append_getElem (by simpa using hil)]; simp
        have hb1 : badAr (l.take (i + 1)) args.length = (badAr (l.take i) args.length || (decide (l[i].kind = 7) && decide (l[i].kids.length ≠ args.length + 1))) := by
          rw [htk]
          simp only [badAr, List.any_append, List.any_cons, List.any_nil, Bool.or_false]
        by_cases h1 : l[i].kind = 1
        · have hres1 : resS l[i] = l[i] := by unfold resS; rw [if_pos h1]
          have hb2 : badI (l.take (i + 1)) args.length = badI (l.take i) args.length := by unfold badI; rw [hb1]; simp [h1]
          simp -implicitDefEqProofs [rcF2, hil, h1, hw]
          refine ⟨⟨by omega, by omega, by omega⟩, i + 1, le_of [0, 3] ?_, ⟨by omega, ha2 (by simp [callable, h1])⟩, by omega⟩
          simp -implicitDefEqProofs [et, hres1, rowsS_app, rowsS, rowsF_bel, rowsF_ren, hb2, zrow]
        · have h1b : (l[i].kind != 1) = true := by simpa using h1
          have h1c : (l[i].kind == 1) = false := by simpa using h1
          by_cases h7 : l[i].kind = 7
          · have h0 := right_fun (hRl _ hm) h7
            have hkm := hKl _ hm
            have hres1 : resS l[i] = l[i].kids[l[i].kids.length - 1] := by unfold resS; rw [if_neg h1, kid_eq (by omega)]
            have hw3 : IntKind.i64.wrap ((l[i].kids.length : Int) - 1) = ((l[i].kids.length - 1 : Nat) : Int) := by rw [wrap64 (by omega) (by omega)]; omega
            have hlt : l[i].kids.length - 1 < l[i].kids.length := by omega
            have hlt' : ((l[i].kids.length - 1 : Nat) : Int) < (l[i].kids.length : Int) := by omega
            by_cases hk : l[i].kids.length = args.length + 1
            · have hk' : ((l[i].kids.length : Int) != (args.length : Int) + 1) = false := by simp; omega
              have hb2 : badI (l.take (i + 1)) args.length = badI (l.take i) args.length := by unfold badI; rw [hb1]; simp [hk]
              simp -implicitDefEqProofs [rcF2, hil, h7, hwa, hk', hw, hw3, hlt, hlt']
              refine ⟨⟨by omega, by omega, by omega⟩, i + 1, le_of [0, 3] ?_, ⟨by omega, ha2 (by simp [callable, h7])⟩, by omega⟩
              simp -implicitDefEqProofs [et, hres1, rowsS_app, rowsS, rowsF_bel, rowsF_ren, hb2, zrow]
            · have hk' : ((l[i].kids.length : Int) != (args.length : Int) + 1) = true := by simp; omega
              have hb2 : badI (l.take (i + 1)) args.length = 30 := by unfold badI; rw [hb1]; simp [hk, h7]
              simp -implicitDefEqProofs [rcF2, hil, h7, hwa, hk', hw, hw3, hlt, hlt']
              refine ⟨⟨by omega, by omega, by omega⟩, i + 1, le_of [0, 3] ?_, ⟨by omega, ha2 (by simp [callable, h7])⟩, by omega⟩
              simp -implicitDefEqProofs [et, hres1, rowsS_app, rowsS, rowsF_bel, rowsF_ren, hb2, zrow]
          · have h7b : (l[i].kind != 7) = true := by simpa using h7
            have : l.all callable = false := by
              rw [List.all_eq_false]
              exact ⟨_, hm, by simp [callable, h1, h7]⟩
            rw [if_neg (by rw [this]; simp)] at hres
            rw [hres]
            simp -implicitDefEqProofs [rcF2, hil, h1b, h7b]
            exact ⟨by simp [zrow], seals_tup (sealsL_cons (seals_agg (sealsL_cons (.same _ (by simp)) (sealsL_cons (.nil _ _) (sealsL_cons (.nil _ _) sealsL_nil)))) (sealsL_cons (.nil _ _) (sealsL_cons (.same _ (by simp)) sealsL_nil)))⟩
      · have : i = l.length := by omega
        subst this
        rw [List.take_length] at hall
        have hc : l.all callable = true := by rw [List.all_eq_true]; exact hall
        rw [if_pos hc] at hres
        have hcl : ∀ g ∈ l, g.kind = 1 ∨ g.kind = 7 := fun g hg => by
          have := hall g hg
          simpa [callable] using this
        have hoz := szs_map_res l hRl
        have hom : ∀ s ∈ l.map resS, limP s := fun s hs => by
          obtain ⟨g, hg, rfl⟩ := List.mem_map.1 hs
          rcases hcl g hg with h1 | h7
          · have : resS g = g := by unfold resS; rw [if_pos h1]
            rw [this]; exact hPl g hg
          · have h0 := right_fun (hRl g hg) h7
            have h1 : g.kids.length - 1 < g.kids.length := by omega
            have : resS g = g.kids[g.kids.length - 1] := by unfold resS; rw [if_neg (by omega), kid_eq h1]
            rw [this]; exact limP_kid (hPl g hg) (List.getElem_mem h1)
        have hor : roT [.sq false 3 (rowsS (l.map resS))] = some (True, .agg (rowS (orS (l.map resS)))) := by
          rw [roT_eq]
          have : (szs (l.map resS) ≤ 900000 ∧ ∀ s ∈ l.map resS, limP s) = True := eq_true ⟨by omega, hom⟩
          rw [this]
        have hlo : (l.map resS).length = l.length := by simp
        simp -implicitDefEqProofs [rcF2]
        refine w_weaken (s' := S.mk 149 [(1, .sq false 3 (rowsS args)), (4, .pt 0 0), (9, .sq false 3 (rowsS l)), (10, .ow 1 l.length), (11, .lit (.int .i64 (badI l args.length)))] [(0, .cells 25 none zrow), (1, .cells 25 (some 3) (rowsS (l.map resS)).flatten)] 2 [] none []) (le_of [0, 1] (by simp [zrow, rowsF_bel, rowsF_ren, List.take_of_length_le])) ?_
        generalize l.map resS = out at *
        refine w_frzO 10 1 (rowsS out) [(1, .sq false 3 (rowsS args)), (4, .pt 0 0), (9, .sq false 3 (rowsS l)), (10, .sq false 3 (rowsS out)), (11, .lit (.int .i64 (badI l args.length)))] rfl rfl (by simpa using hlo) (rowsS_rows out) (fun p hp => ?_) ?_
        · simp at hp
          rcases hp with rfl | rfl | rfl | rfl | rfl
          · exact .inl rfl
          · exact .inl rfl
          · exact .inl rfl
          · exact .inr ⟨rfl, rfl⟩
          · exact .inl rfl
        simp -implicitDefEqProofs [ldel]
        cases hbad : badAr l args.length with
        | true =>
          have hbI : badI l args.length = 30 := by unfold badI; rw [if_pos hbad]
          rw [if_pos hbad] at hres
          rw [hbI]
          refine wx_ok ht fol _ _ _ (by kernel_rfl) ?_
          simp -implicitDefEqProofs [hor, hres]
          exact ⟨by simp [zrow], seals_tup (sealsL_cons (.same _ (by simp)) (sealsL_cons (.nil _ _) (sealsL_cons (.same _ (by simp)) sealsL_nil)))⟩
        | false =>
          have hbI : badI l args.length = 0 := by unfold badI; rw [if_neg (by rw [hbad]; simp)]
          rw [if_neg (by rw [hbad]; simp)] at hres
          rw [hbI]
          refine w_seq (wx_ok ht fol _ _ _ (by kernel_rfl) ?_)
          simp -implicitDefEqProofs
          have hk7 : ∀ g ∈ l, g.kind = 7 → g.kids.length = args.length + 1 := fun g hg h7 => by
            unfold badAr at hbad
            rw [List.any_eq_false] at hbad
            have := hbad g hg
            simpa [h7] using this
          refine w_weaken (s' := S.mk 149 [(1, .sq false 3 (rowsS args)), (4, .pt 0 0), (9, .sq false 3 (rowsS l)), (10, .sq false 3 (rowsS out))] [(0, .cells 25 none zrow)] 1 [] none []) (le_of [0] (by simp [zrow])) ?_
          refine w_seq (wx_ok ht fol _ _ _ (by kernel_rfl) ?_)
          simp -implicitDefEqProofs
          refine w_seq (w_seq (wx_ok ht fol _ _ _ (by kernel_rfl) ?_))
          simp -implicitDefEqProofs
          refine wx_ok ht fol _ _ _ (by kernel_rfl) ?_
          simp -implicitDefEqProofs
          clear hw hi hrs hml hil
          refine w_loop (fun k : { k : Nat // k ≤ args.length } => rcF3 args l out k.1) (fun k => args.length - k.1) ⟨0, Nat.zero_le _⟩ ((S.le_nil 13 3 1 rfl).trans (le_of [0, 1] (by simp [rcF3, zrow, missN, intsD]))) fun ⟨k, hk⟩ => wx_ok ht fol _ _ _ (by kernel_rfl) ?_
          have hwk : IntKind.i64.wrap ((k : Int) + 1) = (k : Int) + 1 := wrap64 (by omega) (by omega)
          have hml := missN_len l (args.take k) 0
          rw [List.length_take] at hml
          by_cases hkl : k < args.length
          · have hmk : args[k] ∈ args := List.getElem_mem hkl
            have hst : missN l (args.take (k + 1)) 0 = missN l (args.take k) 0 ++ (if fineAt l args[k] k then [] else [(k : Int)]) := by
              rw [List.take_succ_eq_append_getElem hkl, missN_app]
              have : 0 + (args.take k).length = k := by rw [List.length_take]; omega
              rw [this]
              simp only [missN]
            obtain ⟨px, zx⟩ := pa _ hmk
            simp -implicitDefEqProofs [rcF3, hkl]
            generalize missN l (args.take k) 0 = m at *
            generalize hx : args[k] = x at *
            refine w_loop (fun i : { i : Nat // i ≤ l.length } => S.mk 149 [(1, .sq false 3 (rowsS args)), (4, .pt 0 0), (9, .sq false 3 (rowsS l)), (10, .sq false 3 (rowsS out)), (13, .ow 1 m.length), (14, .lit (.int .i64 k)), (15, .lit (.bool (fineAt (l.take i.1) x k))), (16, .lit (.int .i64 i.1))]
              [(0, .cells 25 none zrow), (1, .cells 3 (some 1) (intsD m).flatten)] 2 [] none []) (fun i => l.length - i.1) ⟨0, Nat.zero_le _⟩ (le_of [0, 1] (by simp [zrow, fineAt, intsF_bel, intsF_ren])) fun ⟨i, hi⟩ => wx_ok ht fol _ _ _ (by kernel_rfl) ?_
            have hw : IntKind.i64.wrap ((i : Int) + 1) = (i : Int) + 1 := wrap64 (by omega) (by omega)
            by_cases hil : i < l.length
            · have hm : l[i] ∈ l := List.getElem_mem hil
              have hf1 : fineAt (l.take (i + 1)) x k = (fineAt (l.take i) x k && (decide (l[i].kind = 1) || fitsG x (kid l[i] k))) := by
                rw [List.take_succ_eq_append_getElem hil]
                simp only [fineAt, List.all_append, List.all_cons, List.all_nil, Bool.and_true]
              cases hfi : fineAt (l.take i) x k with
              | false =>
                rw [hfi, Bool.false_and] at hf1
                simp -implicitDefEqProofs [hil, hw]
                exact ⟨i + 1, le_of [0, 1] (by simp [zrow, hf1, intsF_bel, intsF_ren]), by omega, by omega⟩
              | true =>
                rw [hfi, Bool.true_and] at hf1
                by_cases h1 : l[i].kind = 1
                · have hf2 : fineAt (l.take (i + 1)) x k = true := by rw [hf1]; simp [h1]
                  simp -implicitDefEqProofs [hil, hw, h1]
                  exact ⟨i + 1, le_of [0, 1] (by simp [zrow, hf2, intsF_bel, intsF_ren]), by omega, by omega⟩
                · have h1b : (l[i].kind == 1) = false := by simpa using h1
                  have h7 : l[i].kind = 7 := by rcases hcl _ hm with h | h <;> omega
                  have hkk := hk7 _ hm h7
                  have hkl2 : k < l[i].kids.length := by omega
                  have hf2 : fineAt (l.take (i + 1)) x k = fitsG x l[i].kids[k] := by rw [hf1, kid_eq hkl2]; simp [h1]
                  have hmk2 : l[i].kids[k] ∈ l[i].kids := List.getElem_mem hkl2
                  have hpk := limP_kid (hPl _ hm) hmk2
                  simp -implicitDefEqProofs [hil, hw, h1b, hkl, hkl2, hx, rfgT_eq]
                  exact ⟨⟨px, hpk⟩, i + 1, le_of [0, 1] (by simp [zrow, hf2, intsF_bel, intsF_ren]), by omega, by omega⟩
            · have : i = l.length := by omega
              subst this
              rw [List.take_length]
              cases hfi : fineAt l x k with
              | true =>
                rw [hfi, if_pos rfl, List.append_nil] at hst
                simp -implicitDefEqProofs [hwk]
                exact ⟨k + 1, le_of [0, 1] (by simp [rcF3, zrow, hst, intsF_bel, intsF_ren]), by omega, by omega⟩
              | false =>
                rw [hfi, if_neg (by simp)] at hst
                have hms := intsF_sum m
                simp -implicitDefEqProofs [hwk, hms]
                refine ⟨⟨by omega, by omega⟩, k + 1, le_of [0, 3] ?_, by omega, by omega⟩
                have e1 : (intsD (m ++ [(k : Int)])).flatten = (intsD m).flatten ++ [D.lit (.int .i64 k)] := by rw [intsD_app, List.flatten_append]; rfl
                simp [rcF3, zrow, hst, intsF_bel, intsF_ren, e1]
          · have : k = args.length := by omega
            subst this
            rw [List.take_length] at *
            simp -implicitDefEqProofs [rcF3]
            refine wx_ok ht fol _ _ _ (by kernel_rfl) ?_
            simp -implicitDefEqProofs [hor]
            rw [hres]
            exact ⟨by simp [zrow], seals_tup (sealsL_cons (.same _ (by simp)) (sealsL_cons (seals_ow (ty := 3) (op := some 1) (rows := intsD (missN l args 0)) rfl (by simp) (intsD_rows _) (intsD_bel _ _)) (sealsL_cons (.same _ (by simp)) sealsL_nil)))⟩
end Go.Proofs.Ythlebppdhipanaa

/-
  The law on what is called: the walk.
-/
namespace Go.Proofs.Ythlebppdhipanaa
open Go.Ev
open Go.Aw (tiOf fieldsOf sB)

theorem limP0 : limP (.mk 0 [] []) := ⟨by simp [limS, limSs], by show 1 ≤ 1000000; omega⟩
theorem cap_lim {out : List Sh} (h : ∀ x ∈ out, limP x) : limP (capS (.mk 8 [] out)) := by
  unfold capS
  split
  · rename_i hf
    unfold fewS at hf
    have hf := of_decide_eq_true hf
    have h1 := szs_len out
    have h2 : sz (.mk 8 [] out) = szs out + 1 := sz_or _
    refine ⟨?_, by omega⟩
    simp only [limS, Bool.and_eq_true, decide_eq_true_eq]
    exact ⟨by simp, by simp, by omega, limSs_all fun x hx => (h x hx).1⟩
  · exact limP_dyn
theorem or_lim {l : List Sh} (hP : ∀ s ∈ l, limP s) : limP (orS l) := by
  unfold orS
  split
  · exact limP0
  · rename_i hn
    simp only [Bool.or_eq_true, Bool.not_eq_true', not_or, Bool.not_eq_true, Bool.not_eq_false] at hn
    have hall : ∀ s ∈ l, goodS s = true := fun s hs => List.all_eq_true.1 hn.2 s hs
    have hfl : ∀ x ∈ flS l, limP x ∧ rightS x = true := fun x hx => by
      unfold flS at hx
      split at hx
      · rename_i s hf
        simp at hx
        subst hx
        have hm := List.mem_of_find?_eq_some hf
        exact ⟨hP _ hm, good_right (hall _ hm)⟩
      · exact flat_good hall hP x hx
    have hout : ∀ x ∈ outS (flS l), limP x := fun x hx => (hfl x ((out_mem (fun s hs => (hfl s hs).2) x).1 hx)).1
    generalize outS (flS l) = out at hout
    unfold oneS
    split
    · exact hout _ (by simp)
    · exact cap_lim hout
theorem res_lim {l : List Sh} (h : ∀ g ∈ l, limP g) : ∀ s ∈ l.map resS, limP s := fun s hs => by
  obtain ⟨g, hg, rfl⟩ := List.mem_map.1 hs
  unfold resS
  split
  · exact h g hg
  · by_cases h0 : g.kids.length = 0
    · have : kid g (g.kids.length - 1) = sh0 := by
        unfold kid
        simp [List.eq_nil_of_length_eq_zero h0]
      rw [this]
      exact limP0
    · have h1 : g.kids.length - 1 < g.kids.length := by omega
      rw [kid_eq h1]
      exact limP_kid (h g hg) (List.getElem_mem h1)
theorem call_lim {f : Sh} (args : List Sh) (pf : limP f) : limP (callG f args).1 := by
  have hfl : ∀ g ∈ flat1 f, limP g := fun g hg => by
    unfold flat1 at hg
    split at hg
    · exact limP_kid pf hg
    · simp at hg; subst hg; exact pf
  unfold callG
  split
  · split
    · split
      · exact or_lim (res_lim hfl)
      · exact or_lim (res_lim hfl)
    · exact limP0
  · exact limP0
theorem call_len (f : Sh) (args : List Sh) : (callG f args).2.1.length ≤ args.length := by
  unfold callG
  split
  · split
    · split
      · simp
      · exact missN_len _ _ _
    · simp
  · simp

noncomputable def caT : List D → Option (Prop × D) := ctr (fun p : Sh × List Sh => [.agg (rowS p.1), .sq false 3 (rowsS p.2)]) (fun p => limP p.1 ∧ sz p.1 ≤ 900 ∧ (∀ s ∈ p.2, limP s ∧ sz s ≤ 1000) ∧ p.2.length ≤ 900) (fun p => callD (callG p.1 p.2))
theorem caT_eq (f : Sh) (args : List Sh) : caT [.agg (rowS f), .sq false 3 (rowsS args)] = some (limP f ∧ sz f ≤ 900 ∧ (∀ s ∈ args, limP s ∧ sz s ≤ 1000) ∧ args.length ≤ 900, .tup [.agg (rowS (callG f args).1), .sq false 1 (intsD (callG f args).2.1), .lit (.int .i64 (callG f args).2.2)]) :=
  ctr_enc (enc := fun p : Sh × List Sh => [D.agg (rowS p.1), .sq false 3 (rowsS p.2)]) (fun a b h => by simp at h; exact Prod.ext (rowS_inj _ _ h.1) (rowsS_inj _ _ h.2)) (f, args)
theorem caT_ok : ∀ xs p d, caT xs = some (p, d) → p → FnO Try.prog 25 xs (.ret d) ∧ D.belL 0 xs = true ∧ D.bel 0 d = true :=
  ctr_ok fun p h => ⟨call_ok p.1 p.2 h.1 h.2.1 h.2.2.1 h.2.2.2, by simp, by simp [callD, intsD_belU]⟩
theorem rcaT_ok : ∀ xs p d, caT xs = some (p, d) → p → FnO Try.prog 26 xs (.ret d) ∧ D.belL 0 xs = true ∧ D.bel 0 d = true :=
  ctr_ok fun p h => ⟨rcall_ok p.1 p.2 h.1 h.2.1 h.2.2.1 h.2.2.2, by simp, by simp [callD, intsD_belU]⟩
noncomputable def siT : List D → Option (Prop × D) := ctr (fun l : List Int => [.sq false 1 (intsD l), .sq false 1 (intsD l)]) (fun l => l.length ≤ 1000000) (fun _ => .lit (.bool true))
theorem intsD_inj : ∀ a b : List Int, intsD a = intsD b → a = b
  | [], [], _ => rfl
  | [], _ :: _, h => by simp [intsD] at h
  | _ :: _, [], h => by simp [intsD] at h
  | x :: a, y :: b, h => by
    simp only [intsD, List.map_cons, List.cons.injEq] at h
    have := intsD_inj a b (by simpa [intsD] using h.2)
    simp at h
    rw [this, h.1]
theorem siT_eq (l : List Int) : siT [.sq false 1 (intsD l), .sq false 1 (intsD l)] = some (l.length ≤ 1000000, .lit (.bool true)) := ctr_enc (fun a b h => by simp at h; exact intsD_inj _ _ h) l
theorem siT_ok : ∀ xs p d, siT xs = some (p, d) → p → FnO Try.prog 28 xs (.ret d) ∧ D.belL 0 xs = true ∧ D.bel 0 d = true :=
  ctr_ok fun l hl => ⟨sameI_ok l hl, by simp [intsD_belU], by simp⟩
theorem joinJ7 (xs : List ByteArray) (sep : ByteArray) (h1 : xs.length ≤ 1000) (h2 : (jnB0 xs sep).size ≤ 1000000) : FnO Try.prog 75 [.sq false 1 (strsD xs), .lit (.string sep)] (.ret (.lit (.string (jnB0 xs sep)))) :=
  join_ok false xs sep (by omega) (by have : joinB xs sep = jnB0 xs sep := rfl; rw [this]; omega)
theorem lives24_ok : FnO Try.prog 24 [] (.ret (.lit (.bool true))) :=
  fnO_of_eng (engT_ok (exT_ok exL ex_ok) (joinE_ok (by kernel_rfl) joinJ7) 1000 60).1 (by kernel_rfl) (by kernel_rfl)

noncomputable def tb7 : Tb := tbC 10 (shT (fun _ => True) (tbool lightS)) (tbC 20 alT (tbC 24 (tCo (.lit (.bool true))) (tbC 25 caT (tbC 26 caT (tbC 27 (smT limP) (tbC 28 siT tb0))))))
theorem tb7_ok : TbOk Try.prog tb7 := by
  refine tbC_ok (shT_ok (fun n _ => light_ok n) (tbool_bel _)) ?_
  refine tbC_ok alT_ok ?_
  refine tbC_ok (ctr_ok fun _ _ => ⟨lives24_ok, by simp, by simp⟩) ?_
  refine tbC_ok caT_ok ?_
  refine tbC_ok rcaT_ok ?_
  refine tbC_ok (smT_ok (q := limP) fun s hs => same_ok (sz s) s (Nat.le_refl _) hs) ?_
  exact tbC_ok siT_ok (tb0_ok _)

set_option maxHeartbeats 4000000 in
set_option maxRecDepth 20000 in
theorem law7_ok (f : Sh) (args : List Sh) (hl : args.length ≤ 100000000000000) : FnO Try.prog 7 [.agg (rowS f), .sq false 3 (rowsS args)] (.ret (.lit (.bool true))) := by
  have ht := tb7_ok
  unfold tb7 at ht
  refine fnO_of Try.func7 rfl (by kernel_rfl) (by simp [Try.ntmps7]) fun I => ?_
  refine w_seq (wx_ok ht fol _ _ _ (by kernel_rfl) ?_)
  simp -implicitDefEqProofs [Try.ntmps7]
  refine w_seq (wx_ok ht fol _ _ _ (by kernel_rfl) ?_)
  cases hf : lightS f with
  | false =>
    simp -implicitDefEqProofs [shT_eq, tbool, hf, tCo_eq]
    exact .same _ (by simp)
  | true =>
  cases hA : allL args with
  | false =>
    simp -implicitDefEqProofs [shT_eq, tbool, hf, tCo_eq, alT_eq, hA]
    exact ⟨by omega, .same _ (by simp)⟩
  | true =>
    have hA' := hA
    simp only [allL, Bool.and_eq_true, decide_eq_true_eq, List.all_eq_true] at hA'
    obtain ⟨a1, a2, a3⟩ := hA'
    have lim := call_lim args (light_limP hf)
    have len := call_len f args
    have pf := light_limP hf
    have zf := light_sz hf
    have pa : ∀ s ∈ args, limP s ∧ sz s ≤ 1000 := fun s hs => ⟨light_limP (a1 s hs), by have := light_sz (a1 s hs); omega⟩
    simp -implicitDefEqProofs [shT_eq, tbool, hf, alT_eq, hA]
    refine ⟨by omega, ?_⟩
    have hca : caT [.agg (rowS f), .sq false 3 (rowsS args)] = some (True, .tup [.agg (rowS (callG f args).1), .sq false 1 (intsD (callG f args).2.1), .lit (.int .i64 (callG f args).2.2)]) := by
      rw [caT_eq]
      have : (limP f ∧ sz f ≤ 900 ∧ (∀ s ∈ args, limP s ∧ sz s ≤ 1000) ∧ args.length ≤ 900) = True := eq_true ⟨pf, by omega, pa, by omega⟩
      rw [this]
    generalize (callG f args).1 = y at *
    generalize (callG f args).2.1 = m at *
    generalize (callG f args).2.2 = e at *
    refine w_weaken (s' := S.mk 50 [(1, .sq false 3 (rowsS args)), (2, .pt 0 0)] [(0, .cells 25 none (rowS f))] 1 [] none []) (le_of [0] (by simp)) ?_
    refine w_seq (wx_ok ht fol _ _ _ (by kernel_rfl) ?_)
    simp -implicitDefEqProofs [hca]
    refine w_weaken (s' := S.mk 50 [(1, .sq false 3 (rowsS args)), (2, .pt 0 0), (5, .pt 1 0), (6, .sq false 1 (intsD m)), (7, .lit (.int .i64 e))] [(0, .cells 25 none (rowS f)), (1, .cells 25 none (rowS y))] 2 [] none []) (le_of [0, 1] (by simp [intsD_bel, intsD_ren])) ?_
    refine w_seq (wx_ok ht fol _ _ _ (by kernel_rfl) ?_)
    simp -implicitDefEqProofs [hca]
    refine w_weaken (s' := S.mk 50 [(5, .pt 0 0), (6, .sq false 1 (intsD m)), (7, .lit (.int .i64 e)), (8, .pt 1 0), (9, .sq false 1 (intsD m)), (10, .lit (.int .i64 e))] [(0, .cells 25 none (rowS y)), (1, .cells 25 none (rowS y))] 2 [] none []) (le_of [1, 2] (by simp [intsD_bel, intsD_ren])) ?_
    refine wx_ok ht fol _ _ _ (by kernel_rfl) ?_
    simp -implicitDefEqProofs [smT_eq, siT_eq, tCo_eq]
    exact ⟨lim, by omega, .same _ (by simp)⟩
end Go.Proofs.Ythlebppdhipanaa
