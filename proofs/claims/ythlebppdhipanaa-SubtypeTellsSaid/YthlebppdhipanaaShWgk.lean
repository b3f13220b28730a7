/-
  The document's: why a shape does not fit another one.
-/
import Derived.Test.YthlebppdhipanaaShWdf
import Derived.Test.YthlebppdhipanaaShWa
import Derived.Test.YthlebppdhipanaaShXc
set_option linter.all false
namespace Go.Proofs.Ythlebppdhipanaa
open Go.Ev
open Go.Aw (tiOf fieldsOf sB)

/-! ### A number's digits -/
noncomputable def dgC (n : Nat) : Bool := isD (.lit (.string (bA (decF 0 n)))) ((eng Try.prog (exT exL) (drawE Try.prog) 1000 60).1 77 [.lit (.int .i64 (n : Int))] { hp := .e, nx := 0 })
theorem dg_all : ((List.range 10).all dgC) = true := by kernel_rfl
theorem digits0_ok (n : Nat) (h : n < 10) : FnO Try.prog 77 [.lit (.int .i64 (n : Int))] (.ret (.lit (.string (bA (decF 0 n))))) :=
  fnO_of_engD (eng_sound (exT_ok exL ex_ok) 1000 60) (by kernel_rfl) (by simp) ((List.all_eq_true.1 dg_all) n (List.mem_range.2 (by omega)))
@[simp] theorem ti21 : tiOf Try.prog 21 = some ⟨1, 4, (.int .i32), [(.zn .i32)]⟩ := by kernel_rfl
theorem encD (r : Nat) (h : r < 10) : Utf8.encode (IntKind.i32.wrap (IntKind.i64.wrap (48 + (r : Int)))) = bA [UInt8.ofNat (48 + r)] := by
  have : r = 0 ∨ r = 1 ∨ r = 2 ∨ r = 3 ∨ r = 4 ∨ r = 5 ∨ r = 6 ∨ r = 7 ∨ r = 8 ∨ r = 9 := by omega
  rcases this with h | h | h | h | h | h | h | h | h | h <;> subst h <;> rfl
set_option maxHeartbeats 1000000 in
set_option maxRecDepth 10000 in
theorem digitsF_ok : ∀ (f n : Nat), f ≤ 10 → n < 10 ^ (f + 1) → FnO Try.prog 77 [.lit (.int .i64 (n : Int))] (.ret (.lit (.string (bA (decF f n)))))
  | 0, n, _, h => digits0_ok n (by simpa using h)
  | f + 1, n, hf, h => by
    by_cases hn : n < 10
    · rw [decF_low _ _ hn]
      exact digits0_ok n hn
    · obtain ⟨q, hq⟩ : ∃ q, q = n / 10 := ⟨_, rfl⟩
      obtain ⟨r, hr⟩ : ∃ r, r = n % 10 := ⟨_, rfl⟩
      have hq1 : q < 10 ^ (f + 1) := by rw [Nat.pow_succ] at h; omega
      have ht := tbC_ok (P := Try.prog) (g := 77) (f := cnT (fun m => m = q) (decF f)) (ctr_ok fun m hm => ⟨by
          subst hm
          exact digitsF_ok f _ (by omega) hq1, by simp, by simp⟩) (tb0_ok _)
      refine fnO_wx ht fol Try.func77 rfl (by kernel_rfl) (by simp [Try.ntmps77]) (by kernel_rfl) fun I => ?_
      have hbig : (10 : Nat) ^ (f + 1 + 1) ≤ 10 ^ 12 := Nat.pow_le_pow_right (by omega) (by omega)
      have e1 : IntKind.i64.wrap ((n : Int) / 10) = (q : Int) := by rw [wrap64 (by omega) (by omega)]; omega
      have e2 : (n : Int) % 10 = (r : Int) := by omega
      have e2' : (n : Int).tmod 10 = (r : Int) := by rw [Int.tmod_eq_emod_of_nonneg (by omega)]; exact e2
      have hn' : ¬ (n : Int) < 10 := by omega
      have hr10 : r < 10 := by omega
      have l1 := decF_len f q
      have e3 : bA (decF (f + 1) n) = ⟨(decF f q ++ [UInt8.ofNat (48 + r)]).toArray⟩ := by
        rw [decF, if_neg hn, ← hq, ← hr]; rfl
      rw [e3]
      have e4 := encD r hr10
      simp -implicitDefEqProofs [Try.ntmps77, e1, e2, e2', hn', cnT_eq, e4]
      exact ⟨by omega, seals_str rfl⟩

set_option maxRecDepth 10000 in
theorem rtextT_ok (s : Sh) (h : limP s) : FnO Try.prog 76 [.agg (rowS s)] (.ret (.lit (.string (textG s)))) := by
  have ht := tbC_ok (shT_ok rgood_ok (tbool_bel _)) (tbC_ok (g := 78) (shT_ok (q := fun n => limP n ∧ rightS n = true) (r := fun n => .lit (.string (txt n))) (fun n h => rtext_ok n h.1 h.2) (by simp)) (tb0_ok _))
  refine fnO_wx ht fol Try.func76 rfl (by kernel_rfl) (by simp [Try.ntmps76]) (by kernel_rfl) fun I => ?_
  cases hG : goodS s with
  | true =>
    have hR := good_right hG
    simp -implicitDefEqProofs [Try.ntmps76, shT_eq, tbool, hG, h, hR]
    simp only [textG, hG, if_true]
    exact .same _ (by simp)
  | false =>
    simp -implicitDefEqProofs [Try.ntmps76, shT_eq, tbool, hG, h]
    simp only [textG, hG]
    exact .same _ (by simp)
end Go.Proofs.Ythlebppdhipanaa

/-
  Why a shape does not fit another one: by kinds (plain).
-/
namespace Go.Proofs.Ythlebppdhipanaa
open Go.Ev
open Go.Aw (tiOf fieldsOf sB)

def whyS (a b : Sh) : List UInt8 := whyN (sz a + sz b) a b
theorem whyN_eq {N : Nat} {a b : Sh} (ha : rightS a = true) (hb : rightS b = true) (h : sz a + sz b ≤ N) : whyN N a b = whyS a b := whyN_fuel _ _ a b ha hb h (Nat.le_refl _)
theorem whyS_len {a b : Sh} (ha : rightS a = true) (hb : rightS b = true) (la : limP a) (lb : limP b) (h : sz a + sz b ≤ 2000) : (whyS a b).length ≤ 6000000000 := by
  have := whyN_len (sz a + sz b) a b ha hb la lb
  have e : whyN (sz a + sz b) a b = whyS a b := rfl
  rw [e] at this
  omega

def okS (p : Pr) : Bool := !p.lack && fitsS p.a p.b

section
variable {a b : Sh} (ha : rightS a = true) (hb : rightS b = true)
include ha hb

theorem why_orL (h8 : a.kind = 8) {i : Nat} (hi : i < a.kids.length) (h1 : ∀ j (h : j < a.kids.length), j < i → fitsS a.kids[j] b = true) (h2 : fitsS a.kids[i] b = false) : whyS a b = whyS a.kids[i] b := by
  obtain ⟨N, hN⟩ : ∃ N, sz a + sz b = N + 1 := ⟨sz a + sz b - 1, by have := sz_pos a; omega⟩
  have hk : ∀ k ∈ a.kids, fitsN N k b = fitsS k b := fun k hk => fitsN_eq (right_kids ha k hk) hb (by have := sz_kid hk; omega)
  have hf : (a.kids.find? fun k => !fitsN N k b) = some a.kids[i] := by
    rw [List.find?_eq_some_iff_getElem]
    refine ⟨by rw [hk _ (List.getElem_mem hi), h2]; rfl, i, hi, rfl, fun j hj => ?_⟩
    rw [hk _ (List.getElem_mem _), h1 j (by omega) hj]; rfl
  rw [whyS, hN, whyN, if_pos h8]
  simp only [hf]
  exact whyN_eq (right_kids ha _ (List.getElem_mem hi)) hb (by have := sz_kid (List.getElem_mem hi); omega)

theorem why_orR (h8 : ¬ a.kind = 8) (h9 : b.kind = 8) : whyS a b = tG a ++ (wNone ++ tG b) := by
  obtain ⟨N, hN⟩ : ∃ N, sz a + sz b = N + 1 := ⟨sz a + sz b - 1, by have := sz_pos a; omega⟩
  rw [whyS, hN, whyN, if_neg h8, if_pos h9]
theorem why_low (h8 : ¬ a.kind = 8) (h9 : ¬ b.kind = 8) (h : a.kind ≠ b.kind ∨ a.kind < 6) : whyS a b = tG a ++ (wNot ++ tG b) := by
  obtain ⟨N, hN⟩ : ∃ N, sz a + sz b = N + 1 := ⟨sz a + sz b - 1, by have := sz_pos a; omega⟩
  rw [whyS, hN, whyN, if_neg h8, if_neg h9, if_pos h]
theorem why_args (h7 : a.kind = 7) (h7b : b.kind = 7) (h : ¬ a.kids.length = b.kids.length) : whyS a b = wArgs := by
  obtain ⟨N, hN⟩ : ∃ N, sz a + sz b = N + 1 := ⟨sz a + sz b - 1, by have := sz_pos a; omega⟩
  have hin : innerPs a b = none := by rw [innerPs, if_neg (by omega), if_neg h]
  rw [whyS, hN, whyN, if_neg (by omega), if_neg (by omega), if_neg (by omega)]
  simp only [hin]
theorem why_inner (h8 : ¬ a.kind = 8) (h9 : ¬ b.kind = 8) (h : ¬ (a.kind ≠ b.kind ∨ a.kind < 6)) {l : List Pr} {p : Pr} (hl : innerPs a b = some l) (hf : (l.find? fun p => !okS p) = some p) : whyS a b = if p.lack then wField ++ sB p.w else sB p.w ++ 46 :: whyS p.a p.b := by
  obtain ⟨N, hN⟩ : ∃ N, sz a + sz b = N + 1 := ⟨sz a + sz b - 1, by have := sz_pos a; omega⟩
  have hk : ∀ p ∈ l, okP N p = okS p := fun p hp => by
    unfold okP okS
    cases hn : p.lack with
    | true => rfl
    | false =>
      obtain ⟨g1, g2, g3⟩ := inner_mem ha hb (by omega) (by omega) h8 hl hp hn
      rw [fitsN_eq g2 g3 (by omega)]
  have hf' : (l.find? fun p => !okP N p) = some p := by
    rw [← hf]
    exact find_cg fun p hp => by rw [hk p hp]
  rw [whyS, hN, whyN, if_neg h8, if_neg h9, if_neg h]
  simp only [hl, hf']
  cases hn : p.lack with
  | true => rfl
  | false =>
    obtain ⟨g1, g2, g3⟩ := inner_mem ha hb (by omega) (by omega) h8 hl (List.mem_of_find?_eq_some hf) hn
    rw [whyN_eq g2 g3 (by omega)]
end

theorem find_app {f : Pr → Bool} {l r : List Pr} {p : Pr} (h : ∀ q ∈ l, f q = true) (hp : f p = false) : ((l ++ p :: r).find? fun q => !f q) = some p := by
  rw [List.find?_append, (List.find?_eq_none (l := l)).2 (fun q hq => by simp [h q hq])]
  simp [List.find?_cons, hp]
theorem lackPs_nil {a : Sh} : ∀ {l : List ByteArray}, (∀ n ∈ l, ∃ m, idxO a.names n = some m) → lackPs a l = []
  | [], _ => rfl
  | n :: r, h => by
    obtain ⟨m, hm⟩ := h n (by simp)
    rw [lackPs, hm, lackPs_nil fun x hx => h x (List.mem_cons_of_mem _ hx)]
    rfl
theorem mem_take {l : List ByteArray} {i : Nat} {n : ByteArray} (h : n ∈ l.take i) : ∃ (j : Nat) (hj : j < l.length), j < i ∧ l[j] = n := by
  obtain ⟨j, hj, rfl⟩ := List.mem_iff_getElem.1 h
  simp at hj
  exact ⟨j, by omega, by omega, by simp⟩

section
variable {a b : Sh} (ha : rightS a = true) (hb : rightS b = true)
include ha hb
theorem why_lack (h6 : a.kind = 6) (h6b : b.kind = 6) {i : Nat} (hi : i < b.names.length) (h1 : ∀ j (h : j < b.names.length), j < i → ∃ m, idxO a.names b.names[j] = some m) (h2 : idxO a.names b.names[i] = none) : whyS a b = wField ++ sB b.names[i] := by
  have hl : innerPs a b = some ([] ++ ⟨b.names[i], sh0, sh0, true⟩ :: (lackPs a (b.names.drop (i + 1)) ++ havePs a b.names b.kids)) := by
    rw [innerPs, if_pos h6, lackPs_split a b.names i hi, lackPs_nil (l := b.names.take i) (fun n hn => by
      obtain ⟨j, hj, h3, rfl⟩ := mem_take hn
      exact h1 j hj h3)]
    simp [lackPs, h2]
  rw [why_inner ha hb (by omega) (by omega) (by omega) hl (find_app (fun q hq => by simp at hq) rfl)]
  rfl
theorem why_have (h6 : a.kind = 6) (h6b : b.kind = 6) (h1 : ∀ j (h : j < b.names.length), ∃ m, idxO a.names b.names[j] = some m) {i m : Nat} (hi : i < b.names.length) (hik : i < b.kids.length) (h2 : ∀ j (h : j < b.names.length) m, j < i → idxO a.names b.names[j] = some m → fitsS (kid a m) (kid b j) = true) (h3 : idxO a.names b.names[i] = some m) (h4 : fitsS (kid a m) b.kids[i] = false) : whyS a b = sB b.names[i] ++ 46 :: whyS (kid a m) b.kids[i] := by
  have hlq := (right_rec hb h6b).1.symm
  have hl : innerPs a b = some (havePs a (b.names.take i) (b.kids.take i) ++ ⟨b.names[i], kid a m, b.kids[i], false⟩ :: havePs a (b.names.drop (i + 1)) (b.kids.drop (i + 1))) := by
    rw [innerPs, if_pos h6, lackPs_nil (l := b.names) (fun n hn => by
      obtain ⟨j, hj, rfl⟩ := List.mem_iff_getElem.1 hn
      exact h1 j hj), havePs_split a b.names b.kids hlq i hi]
    simp [havePs, h3]
  have hall := (have_all (a := a) (f := fitsS) (b.names.take i) (b.kids.take i)).2 fun j n k r e1 e2 e3 => by
    rw [List.getElem?_take] at e1 e2
    split at e1
    · rename_i hji
      rw [if_pos hji] at e2
      obtain ⟨hj1, rfl⟩ := List.getElem?_eq_some_iff.1 e1
      obtain ⟨hj2, rfl⟩ := List.getElem?_eq_some_iff.1 e2
      rw [← kid_eq hj2]
      exact h2 j hj1 r hji e3
    · cases e1
  rw [List.all_eq_true] at hall
  rw [why_inner ha hb (by omega) (by omega) (by omega) hl (find_app (fun q hq => hall q hq) (by simp [okS, h4]))]
  rfl
theorem sig_get (i : Nat) (hi : i + 1 < a.kids.length) : (sigPs a b)[i]? = some ⟨argB (i + 1), kid b i, kid a i, false⟩ := by
  rw [sigPs, List.getElem?_append_left (by simp; omega), List.getElem?_map, List.getElem?_range (by omega)]; rfl
theorem why_arg (h7 : a.kind = 7) (h7b : b.kind = 7) (hle : a.kids.length = b.kids.length) {i : Nat} (hi : i + 1 < a.kids.length) (h1 : ∀ j, j + 1 < a.kids.length → j < i → fitsS (kid b j) (kid a j) = true) (h2 : fitsS (kid b i) (kid a i) = false) : whyS a b = sB (argB (i + 1)) ++ 46 :: whyS (kid b i) (kid a i) := by
  have hl : innerPs a b = some (sigPs a b) := by rw [innerPs, if_neg (by omega), if_pos hle]
  obtain ⟨hil, hie⟩ := List.getElem?_eq_some_iff.1 (sig_get ha hb i hi)
  have hf : ((sigPs a b).find? fun q => !okS q) = some (sigPs a b)[i] := find_at hil (by
    rw [List.all_eq_true]
    intro x hx
    obtain ⟨j, hj, rfl⟩ := List.mem_iff_getElem.1 hx
    simp only [List.length_take] at hj
    rw [List.getElem_take]
    obtain ⟨_, e⟩ := List.getElem?_eq_some_iff.1 (sig_get ha hb j (by omega))
    rw [e]
    simp [okS, h1 j (by omega) (by omega)]) (by rw [hie]; simp [okS, h2])
  rw [hie] at hf
  rw [why_inner ha hb (by omega) (by omega) (by omega) hl hf]
  rfl
theorem why_res (h7 : a.kind = 7) (h7b : b.kind = 7) (hle : a.kids.length = b.kids.length) (h1 : ∀ j, j + 1 < a.kids.length → fitsS (kid b j) (kid a j) = true) (h2 : fitsS (kid a (a.kids.length - 1)) (kid b (a.kids.length - 1)) = false) : whyS a b = sB resB ++ 46 :: whyS (kid a (a.kids.length - 1)) (kid b (a.kids.length - 1)) := by
  have hl : innerPs a b = some (sigPs a b) := by rw [innerPs, if_neg (by omega), if_pos hle]
  have hf : ((sigPs a b).find? fun q => !okS q) = some ⟨resB, kid a (a.kids.length - 1), kid b (a.kids.length - 1), false⟩ := by
    rw [sigPs]
    refine find_app (fun q hq => ?_) (by simp [okS, h2])
    simp only [List.mem_map, List.mem_range] at hq
    obtain ⟨j, hj, rfl⟩ := hq
    simp [okS, h1 j (by omega)]
  rw [why_inner ha hb (by omega) (by omega) (by omega) hl hf]
  rfl
end
end Go.Proofs.Ythlebppdhipanaa

/-
  The document's: why a shape does not fit another one: the walk.
-/
namespace Go.Proofs.Ythlebppdhipanaa
open Go.Ev
open Go.Aw (tiOf fieldsOf sB)

def RY (x y : Sh) : Prop := FnO Try.prog 43 [.agg (rowS x), .agg (rowS y)] (.ret (.lit (.string (bA (whyS x y)))))
noncomputable def ryT (q : Sh → Sh → Prop) : List D → Option (Prop × D) := sh2T q (fun x y => .lit (.string (bA (whyS x y))))
theorem ryT_eq (q : Sh → Sh → Prop) (x y : Sh) : ryT q [.agg (rowS x), .agg (rowS y)] = some (q x y, .lit (.string (bA (whyS x y)))) := sh2T_eq _ _ x y
theorem ryT_ok {q : Sh → Sh → Prop} (h : ∀ x y, q x y → RY x y) : ∀ xs p d, ryT q xs = some (p, d) → p → FnO Try.prog 43 xs (.ret d) ∧ D.belL 0 xs = true ∧ D.bel 0 d = true := sh2T_ok h (by simp)
noncomputable def rxT : List D → Option (Prop × D) := shT limP (fun n => .lit (.string (bA (tG n))))
theorem rxT_eq (x : Sh) : rxT [.agg (rowS x)] = some (limP x, .lit (.string (bA (tG x)))) := shT_eq _ _ x
theorem rxT_ok : ∀ xs p d, rxT xs = some (p, d) → p → FnO Try.prog 76 xs (.ret d) ∧ D.belL 0 xs = true ∧ D.bel 0 d = true := shT_ok (fun n h => by
  have e : bA (tG n) = textG n := by simp [tG, bA, sB]
  rw [e]; exact rtextT_ok n h) (by simp)

def ryS (a b : Sh) (tm : List (Nat × D)) : S := S.mk 188 ([(2, .pt 0 0), (3, .pt 1 0), (4, .lit (.string ⟨#[]⟩))] ++ tm) [(0, .cells 25 none (rowS a)), (1, .cells 25 none (rowS b))] 2 [] none []

set_option maxHeartbeats 4000000 in
set_option maxRecDepth 20000 in
theorem ryOrL_ok (a b : Sh) (ha : rightS a = true) (hb : rightS b = true) (la : limP a) (lb : limP b) (hN : ∀ x ∈ a.kids, fitsS x b = false → RY x b) (h8 : a.kind = 8) (hf : fitsS a b = false) (hd : ¬ (a.kind = 1 ∨ b.kind = 1)) : RY a b := by
  have ht := tbC_ok (rfT_ok (q := fun x y => x ∈ a.kids ∧ y = b) (fun x y h => by rw [h.2]; exact rfits_ok _ x b (right_kids ha x h.1) hb (limP_kid la h.1) lb (Nat.le_refl _))) (tbC_ok (ryT_ok (q := fun x y => x ∈ a.kids ∧ y = b ∧ fitsS x b = false) (fun x y h => by rw [h.2.1]; exact hN x h.1 h.2.2)) (tb0_ok _))
  have hl := (lim_len la).1
  refine fnO_wx ht fol Try.func43 rfl (by kernel_rfl) (by simp [Try.ntmps43]) (by kernel_rfl) fun I => ?_
  simp -implicitDefEqProofs [Try.ntmps43, h8]
  refine w_loop (fun i : { i : Nat // i ≤ a.kids.length ∧ ∀ j (h : j < a.kids.length), j < i → fitsS a.kids[j] b = true } => ryS a b [(5, .lit (.int .i64 i.1))]) (fun i => a.kids.length - i.1) ⟨0, Nat.zero_le _, fun j _ h => by omega⟩ (le_of [0, 1] (by simp [ryS])) fun ⟨i, hi, hall⟩ => wx_ok ht fol _ _ _ (by kernel_rfl) ?_
  have hw : IntKind.i64.wrap ((i : Int) + 1) = (i : Int) + 1 := wrap64 (by omega) (by omega)
  by_cases hil : i < a.kids.length
  · have hm : a.kids[i] ∈ a.kids := List.getElem_mem hil
    cases hfi : fitsS a.kids[i] b with
    | true =>
      simp -implicitDefEqProofs [ryS, hil, hw, rfT_eq, ryT_eq, hm, hfi]
      exact ⟨i + 1, le_of [0, 1] (by simp), ⟨by omega, fun j hj hlt => by
        by_cases h7 : j = i
        · subst h7; exact hfi
        · exact hall j hj (by omega)⟩, by omega⟩
    | false =>
      simp -implicitDefEqProofs [ryS, hil, hw, rfT_eq, ryT_eq, hm, hfi]
      rw [why_orL ha hb h8 hil hall hfi]
      exact seals_str rfl
  · have : i = a.kids.length := by omega
    subst this
    exfalso
    have := (fit_orL ha hb hd h8).2 fun x hx => by
      obtain ⟨j, hj, rfl⟩ := List.mem_iff_getElem.1 hx
      exact hall j hj hj
    rw [hf] at this; cases this

set_option maxHeartbeats 4000000 in
set_option maxRecDepth 20000 in
theorem ryText_ok (a b : Sh) (ha : rightS a = true) (hb : rightS b = true) (la : limP a) (lb : limP b) (h8 : ¬ a.kind = 8) (h : b.kind = 8 ∨ a.kind ≠ b.kind ∨ a.kind < 6) : RY a b := by
  have ht := tbC_ok rxT_ok (tb0_ok Try.prog)
  have h3b : (a.kind == 8) = false := by simpa using h8
  have ta := tG_len a la.1
  have tb := tG_len b lb.1
  refine fnO_wx ht fol Try.func43 rfl (by kernel_rfl) (by simp [Try.ntmps43]) (by kernel_rfl) fun I => ?_
  by_cases h9 : b.kind = 8
  · simp -implicitDefEqProofs [Try.ntmps43, h3b, h9, rxT_eq, la, lb]
    rw [why_orR ha hb h8 h9]
    exact ⟨by omega, by omega, seals_str (by simp [bA, wNone])⟩
  · have hq := h.resolve_left h9
    have h4b : (b.kind == 8) = false := by simpa using h9
    by_cases hab : a.kind = b.kind
    · have hb1 : (a.kind != b.kind) = false := by simpa using hab
      have hlt : a.kind < 6 := by omega
      simp -implicitDefEqProofs [Try.ntmps43, h3b, h4b, hb1, hlt, rxT_eq, la, lb]
      rw [why_low ha hb h8 h9 hq]
      exact ⟨by omega, by omega, seals_str (by simp [bA, wNot])⟩
    · have hb1 : (a.kind != b.kind) = true := by simpa using hab
      simp -implicitDefEqProofs [Try.ntmps43, h3b, h4b, hb1, rxT_eq, la, lb]
      rw [why_low ha hb h8 h9 hq]
      exact ⟨by omega, by omega, seals_str (by simp [bA, wNot])⟩
end Go.Proofs.Ythlebppdhipanaa

/-
  The document's: why a shape does not fit another one: records, functions; the whole.
-/
namespace Go.Proofs.Ythlebppdhipanaa
open Go.Ev
open Go.Aw (tiOf fieldsOf sB)

set_option maxHeartbeats 4000000 in
set_option maxRecDepth 20000 in
theorem ryRec_ok (a b : Sh) (ha : rightS a = true) (hb : rightS b = true) (la : limP a) (lb : limP b) (hs : sz a + sz b ≤ 2000) (hN : ∀ x ∈ a.kids, ∀ y ∈ b.kids, fitsS x y = false → RY x y) (h6 : a.kind = 6) (h6b : b.kind = 6) (hf : fitsS a b = false) : RY a b := by
  have e := fit_rec ha hb h6 h6b
  have ra := right_rec ha h6
  have rb := right_rec hb h6b
  have ht := tbC_ok flT_ok (tbC_ok (rfT_ok (q := fun x y => x ∈ a.kids ∧ y ∈ b.kids) (fun x y h => rfits_ok _ x y (right_kids ha x h.1) (right_kids hb y h.2) (limP_kid la h.1) (limP_kid lb h.2) (Nat.le_refl _))) (tbC_ok (ryT_ok (q := fun x y => x ∈ a.kids ∧ y ∈ b.kids ∧ fitsS x y = false) (fun x y h => hN x h.1 y h.2.1 h.2.2)) (tb0_ok _)))
  obtain ⟨na1, na2, _⟩ := lim_len la
  obtain ⟨nb1, nb2, nb3⟩ := lim_len lb
  have f1 : a.names.length ≤ 1000000 := by omega
  have f2 : a.names.length ≤ a.kids.length := by omega
  refine fnO_wx ht fol Try.func43 rfl (by kernel_rfl) (by simp [Try.ntmps43]) (by kernel_rfl) fun I => ?_
  simp -implicitDefEqProofs [Try.ntmps43, h6, h6b]
  refine w_loop (fun i : { i : Nat // i ≤ b.names.length ∧ ∀ j (h : j < b.names.length), j < i → ∃ m, idxO a.names b.names[j] = some m } => ryS a b [(6, .lit (.int .i64 i.1))]) (fun i => b.names.length - i.1) ⟨0, Nat.zero_le _, fun j _ h => by omega⟩ (le_of [0, 1] (by simp [ryS])) fun ⟨i, hi, hall⟩ => wx_ok ht fol _ _ _ (by kernel_rfl) ?_
  have hw : IntKind.i64.wrap ((i : Int) + 1) = (i : Int) + 1 := wrap64 (by omega) (by omega)
  by_cases hil : i < b.names.length
  · have hsz : (sB b.names[i]).length ≤ 1000 := by rw [sB_size]; exact nb3 _ (List.getElem_mem hil)
    have hsz' : b.names[i].size ≤ 1000 := nb3 _ (List.getElem_mem hil)
    cases hx : idxO a.names b.names[i] with
    | none =>
      have ef : fieldD a b.names[i] = .tup [.agg zrow, .lit (.bool false)] := by rw [fieldD, hx]
      simp -implicitDefEqProofs [ryS, hil, hw, flT_eq, f1, f2, ef, zrow]
      rw [why_lack ha hb h6 h6b hil hall hx]
      exact ⟨by omega, seals_str rfl⟩
    | some m =>
      have ef : fieldD a b.names[i] = .tup [.agg (rowS (kid a m)), .lit (.bool true)] := by rw [fieldD, hx]
      simp -implicitDefEqProofs [ryS, hil, hw, flT_eq, f1, f2, ef]
      exact ⟨i + 1, le_of [0, 1] (by simp), ⟨by omega, fun j hj hlt => by
        by_cases h7 : j = i
        · subst h7; exact ⟨m, hx⟩
        · exact hall j hj (by omega)⟩, by omega⟩
  · have : i = b.names.length := by omega
    subst this
    have hall' : ∀ j (h : j < b.names.length), ∃ m, idxO a.names b.names[j] = some m := fun j hj => hall j hj hj
    simp -implicitDefEqProofs [ryS]
    refine w_loop (fun i : { i : Nat // i ≤ b.names.length ∧ ∀ j (h : j < b.names.length) m, j < i → idxO a.names b.names[j] = some m → fitsS (kid a m) (kid b j) = true } => ryS a b [(9, .lit (.int .i64 i.1))]) (fun i => b.names.length - i.1) ⟨0, Nat.zero_le _, fun j _ _ h => by omega⟩ (le_of [0, 1] (by simp [ryS])) fun ⟨i, hi, hfit⟩ => wx_ok ht fol _ _ _ (by kernel_rfl) ?_
    have hw : IntKind.i64.wrap ((i : Int) + 1) = (i : Int) + 1 := wrap64 (by omega) (by omega)
    by_cases hil : i < b.names.length
    · have hik : i < b.kids.length := by omega
      have hik' : (i : Int) < (b.kids.length : Int) := by omega
      have hm : b.kids[i] ∈ b.kids := List.getElem_mem hik
      obtain ⟨m, hx⟩ := hall' i hil
      obtain ⟨hml, _⟩ := idxO_lt hx
      have hmk : m < a.kids.length := by omega
      have ef : fieldD a b.names[i] = .tup [.agg (rowS (kid a m)), .lit (.bool true)] := by rw [fieldD, hx]
      have hma : kid a m ∈ a.kids := kid_mem hmk
      have hsz : (sB b.names[i]).length ≤ 1000 := by rw [sB_size]; exact nb3 _ (List.getElem_mem hil)
      have hsz' : b.names[i].size ≤ 1000 := nb3 _ (List.getElem_mem hil)
      have hwl := whyS_len (right_kids ha _ hma) (right_kids hb _ hm) (limP_kid la hma) (limP_kid lb hm) (by have := sz_kid hma; have := sz_kid hm; omega)
      cases hfi : fitsS (kid a m) b.kids[i] with
      | true =>
        simp -implicitDefEqProofs [ryS, hil, hw, flT_eq, f1, f2, ef, hik, hik', rfT_eq, hm, hma, hfi]
        exact ⟨i + 1, le_of [0, 1] (by simp), ⟨by omega, fun j hj m' hlt hx' => by
          by_cases h7 : j = i
          · subst h7
            rw [hx] at hx'
            cases hx'
            rw [kid_eq hik]; exact hfi
          · exact hfit j hj m' (by omega) hx'⟩, by omega⟩
      | false =>
        simp -implicitDefEqProofs [ryS, hil, hw, flT_eq, f1, f2, ef, hik, hik', rfT_eq, ryT_eq, hm, hma, hfi]
        rw [why_have ha hb h6 h6b hall' hil hik hfit hx hfi]
        exact ⟨by omega, by omega, seals_str (by simp [bA])⟩
    · have : i = b.names.length := by omega
      subst this
      exfalso
      have := e.2 fun j hj => by
        obtain ⟨m, hm⟩ := hall' j hj
        exact ⟨m, hm, hfit j hj m hj hm⟩
      rw [hf] at this; cases this

set_option maxHeartbeats 4000000 in
set_option maxRecDepth 20000 in
theorem ryFun_ok (a b : Sh) (ha : rightS a = true) (hb : rightS b = true) (la : limP a) (lb : limP b) (hs : sz a + sz b ≤ 2000) (hN : ∀ x y, (x ∈ a.kids ∧ y ∈ b.kids) ∨ (x ∈ b.kids ∧ y ∈ a.kids) → fitsS x y = false → RY x y) (h7 : a.kind = 7) (h7b : b.kind = 7) (hf : fitsS a b = false) : RY a b := by
  have e := fit_fun ha hb h7 h7b
  have h0 := right_fun ha h7
  have hR : ∀ x y, (x ∈ a.kids ∧ y ∈ b.kids) ∨ (x ∈ b.kids ∧ y ∈ a.kids) → rightS x = true ∧ rightS y = true ∧ limP x ∧ limP y := fun x y h => by
    rcases h with h | h
    · exact ⟨right_kids ha x h.1, right_kids hb y h.2, limP_kid la h.1, limP_kid lb h.2⟩
    · exact ⟨right_kids hb x h.1, right_kids ha y h.2, limP_kid lb h.1, limP_kid la h.2⟩
  have ht := tbC_ok (rfT_ok (q := fun x y => (x ∈ a.kids ∧ y ∈ b.kids) ∨ (x ∈ b.kids ∧ y ∈ a.kids)) (fun x y h => rfits_ok _ x y (hR x y h).1 (hR x y h).2.1 (hR x y h).2.2.1 (hR x y h).2.2.2 (Nat.le_refl _))) (tbC_ok (ryT_ok (q := fun x y => ((x ∈ a.kids ∧ y ∈ b.kids) ∨ (x ∈ b.kids ∧ y ∈ a.kids)) ∧ fitsS x y = false) (fun x y h => hN x y h.1 h.2)) (tbC_ok (P := Try.prog) (g := 77) (f := cnT (fun n => n < 10000) (decF 3)) (ctr_ok fun n hn => ⟨digitsF_ok 3 n (by omega) (by omega), by simp, by simp⟩) (tb0_ok _)))
  obtain ⟨na1, _, _⟩ := lim_len la
  refine fnO_wx ht fol Try.func43 rfl (by kernel_rfl) (by simp [Try.ntmps43]) (by kernel_rfl) fun I => ?_
  by_cases hl : a.kids.length = b.kids.length
  · obtain ⟨n, hn⟩ : ∃ n, a.kids.length = n + 1 := ⟨a.kids.length - 1, by omega⟩
    have hnb : b.kids.length = n + 1 := by omega
    have e1 : IntKind.i64.wrap ((n : Int) + 1 - 1) = (n : Int) := by rw [wrap64 (by omega) (by omega)]; omega
    have e1' : IntKind.i64.wrap (n : Int) = (n : Int) := wrap64 (by omega) (by omega)
    simp -implicitDefEqProofs [Try.ntmps43, h7, h7b, hn, hnb]
    refine w_loop (fun i : { i : Nat // i ≤ n ∧ ∀ j, j < n → j < i → fitsS (kid b j) (kid a j) = true } => ryS a b [(12, .lit (.int .i64 ((n : Int) + 1))), (13, .lit (.int .i64 i.1))]) (fun i => n - i.1) ⟨0, Nat.zero_le _, fun j _ h => by omega⟩ (le_of [0, 1] (by simp [ryS])) fun ⟨i, hi, hall⟩ => wx_ok ht fol _ _ _ (by kernel_rfl) ?_
    have hw : IntKind.i64.wrap ((i : Int) + 1) = (i : Int) + 1 := wrap64 (by omega) (by omega)
    by_cases hil : i < n
    · have h1 : i < a.kids.length := by omega
      have h2 : i < b.kids.length := by omega
      have h1' : (i : Int) < (n : Int) + 1 := by omega
      have h3 : i < n + 1 := by omega
      have hma : a.kids[i] ∈ a.kids := List.getElem_mem h1
      have hmb : b.kids[i] ∈ b.kids := List.getElem_mem h2
      have hwl := whyS_len (right_kids hb _ hmb) (right_kids ha _ hma) (limP_kid lb hmb) (limP_kid la hma) (by have := sz_kid hma; have := sz_kid hmb; omega)
      have hd := decF_len 3 (i + 1)
      have hi4 : i + 1 < 10000 := by omega
      have ec : ((i : Int) + 1) = ((i + 1 : Nat) : Int) := by omega
      have ed := cnT_eq (fun n => n < 10000) (decF 3) (i + 1)
      rw [← ec] at ed
      cases hfi : fitsS b.kids[i] a.kids[i] with
      | true =>
        simp -implicitDefEqProofs [ryS, hil, hw, e1, e1', hn, hnb, h1, h2, h3, h1', rfT_eq, hma, hmb, hfi]
        exact ⟨i + 1, le_of [0, 1] (by simp), ⟨by omega, fun j hj hlt => by
          by_cases h9 : j = i
          · subst h9; rw [kid_eq h1, kid_eq h2]; exact hfi
          · exact hall j hj (by omega)⟩, by omega⟩
      | false =>
        simp -implicitDefEqProofs [ryS, hil, hw, e1, e1', hn, hnb, h1, h2, h3, h1', rfT_eq, ryT_eq, hma, hmb, hfi, ed, hi4]
        rw [why_arg ha hb h7 h7b hl (i := i) (by omega) (fun j hj hlt => hall j (by omega) hlt) (by rw [kid_eq h1, kid_eq h2]; exact hfi), kid_eq h1, kid_eq h2]
        exact ⟨by omega, by omega, by omega, seals_str (by simp [bA, argB, decB])⟩
    · have : i = n := by omega
      subst this
      have h1 : i < a.kids.length := by omega
      have h2 : i < b.kids.length := by omega
      have h1' : (i : Int) < (i : Int) + 1 := by omega
      have hma : a.kids[i] ∈ a.kids := List.getElem_mem h1
      have hmb : b.kids[i] ∈ b.kids := List.getElem_mem h2
      have hk : a.kids.length - 1 = i := by omega
      have hfi : fitsS a.kids[i] b.kids[i] = false := by
        cases hq : fitsS a.kids[i] b.kids[i] with
        | false => rfl
        | true =>
          have := e.2 ⟨hl, fun j hj => hall j (by omega) (by omega), by rw [hk, kid_eq h1, kid_eq h2]; exact hq⟩
          rw [hf] at this; cases this
      have hwl := whyS_len (right_kids ha _ hma) (right_kids hb _ hmb) (limP_kid la hma) (limP_kid lb hmb) (by have := sz_kid hma; have := sz_kid hmb; omega)
      simp -implicitDefEqProofs [ryS, e1, e1', hn, hnb, h1, h2, h1', ryT_eq, hma, hmb, hfi]
      rw [why_res ha hb h7 h7b hl (fun j hj => hall j (by omega) (by omega)) (by rw [hk, kid_eq h1, kid_eq h2]; exact hfi), hk, kid_eq h1, kid_eq h2]
      exact ⟨by omega, seals_str (by simp [bA, resB, sB])⟩
  · have hl' : ((a.kids.length : Int) != (b.kids.length : Int)) = true := by simp; omega
    simp -implicitDefEqProofs [Try.ntmps43, h7, h7b, hl']
    rw [why_args ha hb h7 h7b hl]
    exact seals_str rfl

theorem rwhy_ok : ∀ (N : Nat) (a b : Sh), rightS a = true → rightS b = true → limP a → limP b → sz a + sz b ≤ N → N ≤ 2000 → fitsS a b = false → RY a b
  | 0, a, b, _, _, _, _, h, _, _ => by have := sz_pos a; omega
  | N + 1, a, b, ha, hb, la, lb, hs, hn, hf => by
    have ih := rwhy_ok N
    have hd : ¬ (a.kind = 1 ∨ b.kind = 1) := fun q => by rw [fit_dyn ha hb q] at hf; cases hf
    by_cases h8 : a.kind = 8
    · exact ryOrL_ok a b ha hb la lb (fun x hx q => ih x b (right_kids ha x hx) hb (limP_kid la hx) lb (by have := sz_kid hx; omega) (by omega) q) h8 hf hd
    by_cases h : b.kind = 8 ∨ a.kind ≠ b.kind ∨ a.kind < 6
    · exact ryText_ok a b ha hb la lb h8 h
    have hka := right_kind ha
    have kab : ∀ x ∈ a.kids, ∀ y ∈ b.kids, fitsS x y = false → RY x y := fun x hx y hy q => ih x y (right_kids ha x hx) (right_kids hb y hy) (limP_kid la hx) (limP_kid lb hy) (by have := sz_kid hx; have := sz_kid hy; omega) (by omega) q
    have kba : ∀ x ∈ b.kids, ∀ y ∈ a.kids, fitsS x y = false → RY x y := fun x hx y hy q => ih x y (right_kids hb x hx) (right_kids ha y hy) (limP_kid lb hx) (limP_kid la hy) (by have := sz_kid hx; have := sz_kid hy; omega) (by omega) q
    by_cases h6 : a.kind = 6
    · exact ryRec_ok a b ha hb la lb (by omega) kab h6 (by omega) hf
    · exact ryFun_ok a b ha hb la lb (by omega) (fun x y h => by rcases h with h | h; exact kab x h.1 y h.2; exact kba x h.1 y h.2) (by omega) (by omega) hf
end Go.Proofs.Ythlebppdhipanaa

/-
  Why a shape does not fit another one: of all shapes; both ways.
-/
namespace Go.Proofs.Ythlebppdhipanaa
open Go.Ev
open Go.Aw (tiOf fieldsOf sB)

theorem whyN_ne : ∀ (N : Nat) (a b : Sh), rightS a = true → rightS b = true → sz a + sz b ≤ N → fitsN N a b = false → whyN N a b ≠ []
  | 0, a, b, _, _, h, _ => by have := sz_pos a; omega
  | N + 1, a, b, ha, hb, hs, hf => by
    have ih := whyN_ne N
    have hd : ¬ (a.kind = 1 ∨ b.kind = 1) := fun q => by rw [fitsN, if_pos q] at hf; cases hf
    rw [whyN]
    by_cases h8 : a.kind = 8
    · rw [if_pos h8]
      rw [fitsN, if_neg hd, if_pos h8] at hf
      cases hk : a.kids.find? fun k => !fitsN N k b with
      | some k =>
        have hm := List.mem_of_find?_eq_some hk
        exact ih k b (right_kids ha k hm) hb (by have := sz_kid hm; omega) (by have := List.find?_some hk; simpa using this)
      | none =>
        rw [List.find?_eq_none] at hk
        have : (a.kids.all fun k => fitsN N k b) = true := by
          rw [List.all_eq_true]
          intro x hx
          simpa using hk x hx
        rw [this] at hf; cases hf
    rw [if_neg h8]
    by_cases h9 : b.kind = 8
    · rw [if_pos h9]; simp [wNone]
    rw [if_neg h9]
    by_cases hl : a.kind ≠ b.kind ∨ a.kind < 6
    · rw [if_pos hl]; simp [wNot]
    rw [if_neg hl]
    cases hin : innerPs a b with
    | none => simp [wArgs]
    | some l =>
      have e : fitsN (N + 1) a b = l.all (okP N) := by rw [fitsN, if_neg hd, if_neg h8, if_neg h9, if_neg hl, hin]; rfl
      rw [e] at hf
      cases hk : l.find? fun p => !okP N p with
      | some p =>
        simp only [hk]
        cases p.lack <;> simp [wField]
      | none =>
        rw [List.find?_eq_none] at hk
        have : l.all (okP N) = true := by
          rw [List.all_eq_true]
          intro x hx
          simpa using hk x hx
        rw [this] at hf; cases hf

def whyG (a b : Sh) : List UInt8 := if goodS a && goodS b && !fitsS a b then whyS a b else []
theorem whyG_iff (a b : Sh) : whyG a b = [] ↔ fitsG a b = true ∨ goodS a = false ∨ goodS b = false := by
  unfold whyG fitsG
  cases ga : goodS a with
  | false => simp
  | true =>
  cases gb : goodS b with
  | false => simp
  | true =>
  cases hf : fitsS a b with
  | true => simp
  | false =>
    have := whyN_ne (sz a + sz b) a b (good_right ga) (good_right gb) (Nat.le_refl _) (by rw [fitsN_eq (good_right ga) (good_right gb) (Nat.le_refl _)]; exact hf)
    simpa [whyS] using this

set_option maxHeartbeats 1000000 in
set_option maxRecDepth 10000 in
theorem whyT_ok (a b : Sh) (la : limP a) (lb : limP b) (hs : sz a + sz b ≤ 2000) : FnO Try.prog 17 [.agg (rowS a), .agg (rowS b)] (.ret (.lit (.string (bA (whyG a b))))) := by
  have ht := tbC_ok (shT_ok good_ok (tbool_bel _)) (tbC_ok (g := 40) (sh2T_ok (q := fun x y => x = a ∧ y = b ∧ rightS a = true ∧ rightS b = true) (r := fun x y => .lit (.bool (fitsN 2000 x y))) (fun x y h => by
    obtain ⟨rfl, rfl, h1, h2⟩ := h
    exact fits_ok 2000 x y h1 h2 la lb hs) (by simp)) (tbC_ok (g := 42) (sh2T_ok (q := fun x y => x = a ∧ y = b ∧ rightS a = true ∧ rightS b = true ∧ fitsN 2000 a b = false) (r := fun x y => .lit (.string (bA (whyN 2000 x y)))) (fun x y h => by
    obtain ⟨rfl, rfl, h1, h2, h3⟩ := h
    exact why_ok 2000 x y h1 h2 la lb hs (Nat.le_refl _) h3) (by simp)) (tb0_ok _)))
  refine fnO_wx ht fol Try.func17 rfl (by kernel_rfl) (by simp [Try.ntmps17]) (by kernel_rfl) fun I => ?_
  cases ga : goodS a with
  | false =>
    simp -implicitDefEqProofs [Try.ntmps17, shT_eq, tbool, ga, la]
    exact seals_str (by simp [whyG, ga, bA])
  | true =>
  cases gb : goodS b with
  | false =>
    simp -implicitDefEqProofs [Try.ntmps17, shT_eq, tbool, ga, gb, la, lb]
    exact seals_str (by simp [whyG, ga, gb, bA])
  | true =>
    have ra := good_right ga
    have rb := good_right gb
    have hq := fitsN_eq ra rb hs
    have hw := whyN_eq ra rb hs
    cases hf : fitsS a b with
    | true =>
      rw [hf] at hq
      simp -implicitDefEqProofs [Try.ntmps17, shT_eq, sh2T_eq, tbool, ga, gb, la, lb, ra, rb, hq]
      exact seals_str (by simp [whyG, ga, gb, hf, bA])
    | false =>
      rw [hf] at hq
      simp -implicitDefEqProofs [Try.ntmps17, shT_eq, sh2T_eq, tbool, ga, gb, la, lb, ra, rb, hq]
      exact seals_str (by simp [whyG, ga, gb, hf, hw])

set_option maxHeartbeats 1000000 in
set_option maxRecDepth 10000 in
theorem alikeT_ok (a b : Sh) (la : limP a) (lb : limP b) (hs : sz a + sz b ≤ 2000) : FnO Try.prog 16 [.agg (rowS a), .agg (rowS b)] (.ret (.lit (.bool (fitsG a b && fitsG b a)))) := by
  have ht := tbC_ok (g := 13) (sh2T_ok (q := fun a b => limP a ∧ limP b ∧ sz a + sz b ≤ 2000) (r := fun a b => .lit (.bool (fitsG a b))) (fun a b h => fitsT_ok a b h.1 h.2.1 h.2.2) (by simp)) (tb0_ok Try.prog)
  have hs' : sz b + sz a ≤ 2000 := by omega
  refine fnO_wx ht fol Try.func16 rfl (by kernel_rfl) (by simp [Try.ntmps16]) (by kernel_rfl) fun I => ?_
  cases h1 : fitsG a b with
  | false =>
    simp -implicitDefEqProofs [Try.ntmps16, sh2T_eq, la, lb, hs, h1]
    exact seals_bool rfl
  | true =>
    simp -implicitDefEqProofs [Try.ntmps16, sh2T_eq, la, lb, hs, hs', h1]
    exact seals_bool rfl

set_option maxHeartbeats 1000000 in
set_option maxRecDepth 10000 in
theorem rwhyT_ok (a b : Sh) (la : limP a) (lb : limP b) (hs : sz a + sz b ≤ 2000) : FnO Try.prog 18 [.agg (rowS a), .agg (rowS b)] (.ret (.lit (.string (bA (whyG a b))))) := by
  have ht := tbC_ok (shT_ok rgood_ok (tbool_bel _)) (tbC_ok (rfT_ok (q := fun x y => x = a ∧ y = b ∧ rightS a = true ∧ rightS b = true) (fun x y h => by
    obtain ⟨rfl, rfl, h1, h2⟩ := h
    exact rfits_ok _ x y h1 h2 la lb (Nat.le_refl _))) (tbC_ok (ryT_ok (q := fun x y => x = a ∧ y = b ∧ rightS a = true ∧ rightS b = true ∧ fitsS a b = false) (fun x y h => by
    obtain ⟨rfl, rfl, h1, h2, h3⟩ := h
    exact rwhy_ok _ x y h1 h2 la lb hs (Nat.le_refl _) h3)) (tb0_ok _)))
  refine fnO_wx ht fol Try.func18 rfl (by kernel_rfl) (by simp [Try.ntmps18]) (by kernel_rfl) fun I => ?_
  cases ga : goodS a with
  | false =>
    simp -implicitDefEqProofs [Try.ntmps18, shT_eq, tbool, ga, la]
    exact seals_str (by simp [whyG, ga, bA])
  | true =>
  cases gb : goodS b with
  | false =>
    simp -implicitDefEqProofs [Try.ntmps18, shT_eq, tbool, ga, gb, la, lb]
    exact seals_str (by simp [whyG, ga, gb, bA])
  | true =>
    have ra := good_right ga
    have rb := good_right gb
    cases hf : fitsS a b with
    | true =>
      simp -implicitDefEqProofs [Try.ntmps18, shT_eq, rfT_eq, ryT_eq, tbool, ga, gb, la, lb, ra, rb, hf]
      exact seals_str (by simp [whyG, ga, gb, hf, bA])
    | false =>
      simp -implicitDefEqProofs [Try.ntmps18, shT_eq, rfT_eq, ryT_eq, tbool, ga, gb, la, lb, ra, rb, hf]
      exact seals_str (by simp [whyG, ga, gb, hf])
end Go.Proofs.Ythlebppdhipanaa
