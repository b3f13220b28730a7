/-
  Why a shape does not fit another one: the walk.
-/
import Derived.Test.YthlebppdhipanaaShV
set_option linter.all false
namespace Go.Proofs.Ythlebppdhipanaa
open Go.Ev
open Go.Aw (tiOf fieldsOf sB)

/-! ### By definition -/
def wNone : List UInt8 := [32, 105, 115, 32, 110, 111, 110, 101, 32, 111, 102, 32]
def wNot : List UInt8 := [32, 105, 115, 32, 110, 111, 116, 32]
def wArgs : List UInt8 := [97, 114, 103, 117, 109, 101, 110, 116, 115]
def wField : List UInt8 := [110, 111, 32, 102, 105, 101, 108, 100, 32]
def tG (s : Sh) : List UInt8 := sB (textG s)
def whyN : Nat → Sh → Sh → List UInt8
  | 0, _, _ => []
  | N + 1, a, b =>
    if a.kind = 8 then (match a.kids.find? fun k => !fitsN N k b with | some k => whyN N k b | none => [])
    else if b.kind = 8 then tG a ++ (wNone ++ tG b)
    else if a.kind ≠ b.kind ∨ a.kind < 6 then tG a ++ (wNot ++ tG b)
    else match innerPs a b with
      | some l => (match l.find? fun p => !okP N p with
        | some p => if p.lack then wField ++ sB p.w else sB p.w ++ 46 :: whyN N p.a p.b
        | none => [])
      | none => wArgs

theorem tG_len (s : Sh) (h : limS s = true) : (tG s).length ≤ 2000000000 := by
  unfold tG textG
  split
  · rename_i hg
    simp only [goodS, Bool.and_eq_true, decide_eq_true_eq] at hg
    have h1 := textL_len s (right_okT s h hg.2)
    have h2 : (sB (txt s)).length = (textL s).length := rfl
    have h3 : (partsL s).length ≤ 512 := hg.1
    omega
  · show 0 ≤ _; omega

theorem inner_w {a b : Sh} (la : limP a) (lb : limP b) (ha : rightS a = true) {l : List Pr} (hl : innerPs a b = some l) {p : Pr} (hp : p ∈ l) : p.w.size ≤ 2000 := by
  obtain ⟨_, _, nb⟩ := lim_len lb
  have lackw : ∀ {q : List ByteArray} {p : Pr}, p ∈ lackPs a q → p.w ∈ q := by
    intro q
    induction q with
    | nil => intro p h; simp [lackPs] at h
    | cons n r ih =>
      intro p h
      simp only [lackPs, List.mem_append] at h
      rcases h with h | h
      · split at h
        · simp at h
        · simp at h; rw [h]; simp
      · exact List.mem_cons_of_mem _ (ih h)
  have havew : ∀ {q : List ByteArray} {s : List Sh} {p : Pr}, p ∈ havePs a q s → p.w ∈ q := by
    intro q
    induction q with
    | nil => intro s p h; simp [havePs] at h
    | cons n r ih =>
      intro s p h
      cases s with
      | nil => simp [havePs] at h
      | cons k t =>
        simp only [havePs, List.mem_append] at h
        rcases h with h | h
        · split at h
          · simp at h; rw [h]; simp
          · simp at h
        · exact List.mem_cons_of_mem _ (ih h)
  unfold innerPs at hl
  split at hl
  · cases hl
    rcases List.mem_append.1 hp with hp | hp
    · have := nb _ (lackw hp); omega
    · have := nb _ (havew hp); omega
  · split at hl
    · cases hl
      rcases List.mem_append.1 hp with hp | hp
      · rw [List.mem_map] at hp
        obtain ⟨i, _, rfl⟩ := hp
        have := decF_len 3 (i + 1)
        simp only [argB, decB, bA_size, List.length_append, sB_bA]
        simp only [List.length_cons, List.length_nil]
        omega
      · simp at hp
        subst hp
        show resB.size ≤ 2000
        decide
    · cases hl

theorem whyN_len : ∀ (N : Nat) (a b : Sh), rightS a = true → rightS b = true → limP a → limP b → (whyN N a b).length ≤ 5000000000 + N * 3000
  | 0, _, _, _, _, _, _ => by simp [whyN]
  | N + 1, a, b, ha, hb, la, lb => by
    have ta := tG_len a la.1
    have tb := tG_len b lb.1
    simp only [whyN]
    split
    · split
      · rename_i k hk
        have hm := List.mem_of_find?_eq_some hk
        have := whyN_len N k b (right_kids ha k hm) hb (limP_kid la hm) lb
        clear ta tb
        exact Nat.le_trans this (Nat.add_le_add_left (Nat.mul_le_mul_right _ (Nat.le_succ _)) _)
      · simp only [List.length_nil]; omega
    · rename_i h8
      split
      · simp only [List.length_append, wNone, List.length_cons, List.length_nil]; omega
      · rename_i h9
        split
        · simp only [List.length_append, wNot, List.length_cons, List.length_nil]; omega
        · rename_i hl
          split
          · rename_i l hin
            split
            · rename_i p hp
              have hm := List.mem_of_find?_eq_some hp
              have hw := inner_w la lb ha hin hm
              have hsb : (sB p.w).length = p.w.size := by simp [sB]
              split
              · simp only [List.length_append, wField, List.length_cons, List.length_nil]; omega
              · rename_i hlk
                have hlk : p.lack = false := by simpa using hlk
                have hab : a.kind = b.kind := by omega
                obtain ⟨_, g2, g3⟩ := inner_mem ha hb hab (by omega) h8 hin hm hlk
                obtain ⟨m1, m2⟩ := inner_lim ha hb hab (by omega) h8 (P := limP) (fun x hx => limP_kid la hx) (fun x hx => limP_kid lb hx) hin hm hlk
                have := whyN_len N p.a p.b g2 g3 m1 m2
                simp only [List.length_append, List.length_cons]
                omega
            · simp only [List.length_nil]; omega
          · simp only [wArgs, List.length_cons, List.length_nil]; omega

theorem find_cg {α : Type} {f g : α → Bool} : ∀ {l : List α}, (∀ x ∈ l, f x = g x) → l.find? f = l.find? g
  | [], _ => rfl
  | x :: r, h => by rw [List.find?_cons, List.find?_cons, h x (by simp), find_cg fun y hy => h y (by simp [hy])]
theorem whyN_fuel : ∀ (N M : Nat) (a b : Sh), rightS a = true → rightS b = true → sz a + sz b ≤ N → sz a + sz b ≤ M → whyN N a b = whyN M a b := by
  intro N
  induction N with
  | zero => intro M a b _ _ h; have := sz_pos a; omega
  | succ N ih =>
    intro M a b ha hb h1 h2
    cases M with
    | zero => have := sz_pos a; omega
    | succ M =>
      simp only [whyN]
      by_cases h8 : a.kind = 8
      · simp only [if_pos h8]
        have e : (a.kids.find? fun k => !fitsN N k b) = a.kids.find? fun k => !fitsN M k b := by
          exact find_cg fun x hx => by rw [fitsN_fuel N M x b (right_kids ha x hx) hb (by have := sz_kid hx; omega) (by have := sz_kid hx; omega)]
        rw [e]
        cases hk : a.kids.find? fun k => !fitsN M k b with
        | none => rfl
        | some k =>
          have hm := List.mem_of_find?_eq_some hk
          exact ih M k b (right_kids ha k hm) hb (by have := sz_kid hm; omega) (by have := sz_kid hm; omega)
      simp only [if_neg h8]
      by_cases h9 : b.kind = 8
      · simp only [if_pos h9]
      simp only [if_neg h9]
      by_cases hq : a.kind ≠ b.kind ∨ a.kind < 6
      · simp only [if_pos hq]
      simp only [if_neg hq]
      cases hin : innerPs a b with
      | none => rfl
      | some l =>
        have hab : a.kind = b.kind := by omega
        have hm : ∀ p ∈ l, p.lack = false → sz p.a + sz p.b < sz a + sz b ∧ rightS p.a = true ∧ rightS p.b = true := fun p hp hn => inner_mem ha hb hab (by omega) h8 hin hp hn
        have e : (l.find? fun p => !okP N p) = l.find? fun p => !okP M p := by
          refine find_cg fun p hp => ?_
          unfold okP
          cases hn : p.lack with
          | true => rfl
          | false =>
            obtain ⟨g1, g2, g3⟩ := hm p hp hn
            rw [fitsN_fuel N M p.a p.b g2 g3 (by omega) (by omega)]
        simp only [e]
        cases hk : l.find? fun p => !okP M p with
        | none => rfl
        | some p =>
          have hpm := List.mem_of_find?_eq_some hk
          simp only
          cases hn : p.lack with
          | true => rfl
          | false =>
            obtain ⟨g1, g2, g3⟩ := hm p hpm hn
            simp only [Bool.false_eq_true, if_false]
            rw [ih M p.a p.b g2 g3 (by omega) (by omega)]

/-! ### The walks -/
def WhyOk (N : Nat) : Prop := ∀ a b, rightS a = true → rightS b = true → limP a → limP b → sz a + sz b ≤ N → N ≤ 2000 → fitsN N a b = false → FnO Try.prog 42 [.agg (rowS a), .agg (rowS b)] (.ret (.lit (.string (bA (whyN N a b)))))

set_option maxRecDepth 10000 in
theorem why1_ok (o : Option Nat) (N : Nat) (b k : Sh) (h : FnO Try.prog 40 [.agg (rowS k), .agg (rowS b)] (.ret (.lit (.bool (fitsN N k b))))) : FnO Try.prog 73 [.agg (rowS k), .ps o (rowS b) 0] (.ret (.lit (.bool (!fitsN N k b)))) := by
  have ht := tbC_ok (P := Try.prog) (g := 40) (sh2T_ok (q := fun x y => x = k ∧ y = b) (r := fun x y => .lit (.bool (fitsN N x y))) (fun x y h1 => by rw [h1.1, h1.2]; exact h) (by simp)) (tb0_ok _)
  refine fnO_wx ht fol Try.func73 rfl (by kernel_rfl) (by simp [Try.ntmps73]) (by kernel_rfl) fun I => ?_
  simp -implicitDefEqProofs [Try.ntmps73, sh2T_eq]
  exact seals_bool rfl

set_option maxHeartbeats 1000000 in
set_option maxRecDepth 10000 in
theorem words_ok2 (o1 o2 : Option Nat) (a b : Sh) (la : limP a) (lb : limP b) (s : ByteArray) (hs : s.size ≤ 1000) : FnO Try.prog 74 [.lit (.string s), .ps o1 (rowS a) 0, .ps o2 (rowS b) 0] (.ret (.lit (.string (bA (tG a ++ (sB s ++ tG b)))))) := by
  have ht := tbC_ok (P := Try.prog) (g := 54) (shT_ok (r := fun n => .lit (.string (textG n))) textT_ok (by simp)) (tb0_ok _)
  refine fnO_of Try.func74 rfl (by kernel_rfl) (by simp [Try.ntmps74]) fun I => ?_
  refine w_seq (wx_ok ht fol _ _ _ (by kernel_rfl) ?_)
  simp -implicitDefEqProofs [Try.ntmps74]
  refine w_seq (w_drawS (md := true) ht 6 fol (by kernel_rfl) (by kernel_rfl) ?_)
  simp -implicitDefEqProofs [shT_eq, la, lb]
  have ta := tG_len a la.1
  have tb := tG_len b lb.1
  have hsb : (sB s).length = s.size := by simp [sB]
  have ej : joinB [textG a, textG b] s = bA (tG a ++ (sB s ++ tG b)) := by
    simp [joinB, Lib.join, List.intercalate, List.intersperse, bA, tG, sB]
  have hO := join_ok false [textG a, textG b] s (by simp) (by rw [ej, bA_size]; simp only [List.length_append]; omega)
  rw [ej] at hO
  refine callS_seal (args' := [.sq false 1 (strsD [textG a, textG b]), .lit (.string s)]) [] [] rfl (by simp) (by simp) rfl (fun i d' hi => ?_) hO (by simp) (by simp) trivial ?_
  · match i, hi with
    | 0, hi => simp at hi; subst hi; exact ⟨_, rfl, seals_sl (rows := strsD [textG a, textG b]) rfl rfl (strsD_rows _) (by simp)⟩
    | 1, hi => simp at hi; subst hi; exact ⟨_, rfl, .same _ (by simp)⟩
    | i + 2, hi => simp at hi
  · simp -implicitDefEqProofs [S.sld]
    refine w_ret ?_
    simp -implicitDefEqProofs
    exact .same _ (by simp)

noncomputable def woT (o1 o2 : Option Nat) (a b : Sh) : List D → Option (Prop × D) := ctr (fun s : ByteArray => [.lit (.string s), .ps o1 (rowS a) 0, .ps o2 (rowS b) 0]) (fun s => s.size ≤ 1000) (fun s => .lit (.string (bA (tG a ++ (sB s ++ tG b)))))
theorem woT_eq (o1 o2 : Option Nat) (a b : Sh) (s : ByteArray) : woT o1 o2 a b [.lit (.string s), .ps o1 (rowS a) 0, .ps o2 (rowS b) 0] = some (s.size ≤ 1000, .lit (.string (bA (tG a ++ (sB s ++ tG b))))) := ctr_enc (fun x y h => by simpa using h) s
theorem woT_ok {o1 o2 : Option Nat} {a b : Sh} (la : limP a) (lb : limP b) : ∀ xs p d, woT o1 o2 a b xs = some (p, d) → p → FnO Try.prog 74 xs (.ret d) ∧ D.belL 0 xs = true ∧ D.bel 0 d = true :=
  ctr_ok fun s hs => ⟨words_ok2 o1 o2 a b la lb s hs, by simp, by simp⟩

/-- The walk's beginning. -/
theorem why_from {a b : Sh} {v : ByteArray} (h : ∀ (I : Gh) (b1 b2 : Nat), W Try.prog none I (match Try.f42.body with | some (.seq _ c) => c | _ => .skip) (leavesK Try.prog Try.f42 (fun d s => ∃ d', Seals s.hp d d' ∧ Out.ret (.lit (.string v)) = .ret d') (fun d s => ∃ d', Seals s.hp d d' ∧ Out.ret (.lit (.string v)) = .pan d'))
    (S.mk 74 [(0, .agg (rowS a)), (1, .agg (rowS b)), (2, .ps (some b1) (rowS a) 0), (3, .ps (some b2) (rowS b) 0), (4, .pt 2 0)] [(2, .cells 9 none [.lit (.string ⟨#[]⟩)])] 3 [] none [])) : FnO Try.prog 42 [.agg (rowS a), .agg (rowS b)] (.ret (.lit (.string v))) := by
  refine fnO_of Try.func42 rfl (by kernel_rfl) (by simp [Try.ntmps42]) fun I => ?_
  refine w_seq (wx_ok (tb0_ok _) fol _ _ _ (by kernel_rfl) ?_)
  simp -implicitDefEqProofs [Try.ntmps42]
  refine w_frz 2 0 rfl rfl fun b1 => ?_
  refine w_frz 3 1 rfl rfl fun b2 => ?_
  have := h I b1 b2
  simp -implicitDefEqProofs at this ⊢
  exact this
end Go.Proofs.Ythlebppdhipanaa

/-
  Why a shape does not fit another one: the walk, by kinds.
-/
namespace Go.Proofs.Ythlebppdhipanaa
open Go.Ev
open Go.Aw (tiOf fieldsOf sB)

theorem seals_str {hp : List (Nat × Blk)} {b c : ByteArray} (h : b = c) : Seals hp (.lit (.string b)) (.lit (.string c)) := by
  subst h; exact .same _ (by simp)
theorem idxI_find {f : Sh → Bool} {l : List Sh} {k : Sh} (h : l.find? f = some k) : ∃ (i : Nat) (hi : i < l.length), idxI f l = (i : Int) ∧ l[i] = k := by
  induction l with
  | nil => simp at h
  | cons x r ih =>
    rw [List.find?_cons] at h
    cases hx : f x with
    | true =>
      rw [hx] at h
      cases h
      exact ⟨0, by simp, by simp [idxI, List.findIdx?_cons, hx], rfl⟩
    | false =>
      rw [hx] at h
      obtain ⟨i, hi, h1, h2⟩ := ih h
      refine ⟨i + 1, by simpa using hi, ?_, h2⟩
      unfold idxI at h1 ⊢
      rw [List.findIdx?_cons, hx]
      cases hq : r.findIdx? f with
      | none => rw [hq] at h1; simp only at h1; omega
      | some j => rw [hq] at h1; simp at h1 ⊢; omega

noncomputable abbrev wiT (caps : List D) (q : Sh → Prop) (f : Sh → Bool) : List D → Option (Prop × D) := ixT 73 caps q f
theorem wiT_ok {caps : List D} {q : Sh → Prop} {f : Sh → Bool} (h : TakOk 73 caps q f) : ∀ xs p d, wiT caps q f xs = some (p, d) → p → FnO Try.prog 72 xs (.ret d) ∧ D.belL 0 xs = true ∧ D.bel 0 d = true :=
  ctr_ok (enc := fun l : List Sh => [.sq false 3 (rowsS l), .fn (.func 73) [] caps]) (pre := fun l : List Sh => l.length ≤ 1000000 ∧ ∀ n ∈ l, q n) (res := fun l : List Sh => .lit (.int .i64 (idxI f l))) fun m hm => ⟨index_ok h m hm.1 hm.2, by simp [h.1], by simp⟩

set_option maxHeartbeats 4000000 in
set_option maxRecDepth 20000 in
theorem whyOrL_ok (N : Nat) (hN2 : N ≤ 1999) (hN : WhyOk N) (a b : Sh) (ha : rightS a = true) (hb : rightS b = true) (la : limP a) (lb : limP b) (hs : sz a + sz b ≤ N + 1) (h8 : a.kind = 8) (k : Sh) (hk : (a.kids.find? fun k => !fitsN N k b) = some k) : FnO Try.prog 42 [.agg (rowS a), .agg (rowS b)] (.ret (.lit (.string (bA (whyN (N + 1) a b))))) := by
  have e : whyN (N + 1) a b = whyN N k b := by rw [whyN, if_pos h8, hk]
  rw [e]
  refine why_from fun I b1 b2 => ?_
  obtain ⟨i, hi, e1, e2⟩ := idxI_find hk
  have tk : TakOk 73 [.ps (some b2) (rowS b) 0] (fun k => k ∈ a.kids) (fun k => !fitsN N k b) := ⟨by simp, fun x hx => why1_ok _ N b x (fits_ok N x b (right_kids ha x hx) hb (limP_kid la hx) lb (by have := sz_kid hx; omega))⟩
  have hm : k ∈ a.kids := by rw [← e2]; exact List.getElem_mem hi
  have hW := hN k b (right_kids ha k hm) hb (limP_kid la hm) lb (by have := sz_kid hm; omega) (by omega) (by have := List.find?_some hk; simpa using this)
  have ht := tbC_ok (wiT_ok tk) (tbC_ok (P := Try.prog) (g := 42) (sh2T_ok (q := fun x y => x = k ∧ y = b) (r := fun x y => .lit (.string (bA (whyN N x y)))) (fun x y h1 => by rw [h1.1, h1.2]; exact hW) (by simp)) (tb0_ok _))
  have hl := (lim_len la).1
  have hl2 : a.kids.length ≤ 1000000 := by omega
  have ei := ixT_eq 73 [.ps (some b2) (rowS b) 0] (fun k => k ∈ a.kids) (fun k => !fitsN N k b) a.kids
  rw [e1] at ei
  have hi' : (i : Int) < (a.kids.length : Int) := by omega
  refine w_seq (wx_ok ht fol _ _ _ (by kernel_rfl) ?_)
  simp -implicitDefEqProofs [h8, wiT, ei, hl2, hi, hi', e2, sh2T_eq]
  exact seals_str rfl

set_option maxHeartbeats 4000000 in
set_option maxRecDepth 20000 in
theorem whyText_ok (N : Nat) (a b : Sh) (la : limP a) (lb : limP b) (h8 : ¬ a.kind = 8) (h : b.kind = 8 ∨ a.kind ≠ b.kind ∨ a.kind < 6) : FnO Try.prog 42 [.agg (rowS a), .agg (rowS b)] (.ret (.lit (.string (bA (whyN (N + 1) a b))))) := by
  have h8b : (a.kind == 8) = false := by simpa using h8
  refine why_from fun I b1 b2 => ?_
  have ht := tbC_ok (woT_ok (o1 := some b1) (o2 := some b2) la lb) (tb0_ok Try.prog)
  refine w_seq (wx_ok ht fol _ _ _ (by kernel_rfl) ?_)
  simp -implicitDefEqProofs [h8b]
  refine wx_ok ht fol _ _ _ (by kernel_rfl) ?_
  by_cases h9 : b.kind = 8
  · have e : whyN (N + 1) a b = tG a ++ (wNone ++ tG b) := by rw [whyN, if_neg h8, if_pos h9]
    rw [e]
    simp -implicitDefEqProofs [h8b, h9, woT_eq]
    exact seals_str rfl
  · have h9b : (b.kind == 8) = false := by simpa using h9
    have hq := h.resolve_left h9
    have e : whyN (N + 1) a b = tG a ++ (wNot ++ tG b) := by rw [whyN, if_neg h8, if_neg h9, if_pos hq]
    rw [e]
    by_cases hab : a.kind = b.kind
    · have hb1 : (a.kind != b.kind) = false := by simpa using hab
      have hlt : a.kind < 6 := by omega
      simp -implicitDefEqProofs [h8b, h9b, hb1, hlt, woT_eq]
      exact seals_str rfl
    · have hb1 : (a.kind != b.kind) = true := by simpa using hab
      simp -implicitDefEqProofs [h8b, h9b, hb1, woT_eq]
      exact seals_str rfl
end Go.Proofs.Ythlebppdhipanaa

/-
  Why a shape does not fit another one: the walk over the pairs; the whole.
-/
namespace Go.Proofs.Ythlebppdhipanaa
open Go.Ev
open Go.Aw (tiOf fieldsOf sB)

theorem find_at {f : Pr → Bool} {l : List Pr} {k : Nat} (hk : k < l.length) (h1 : (l.take k).all f = true) (h2 : f l[k] = false) : (l.find? fun p => !f p) = some l[k] := by
  rw [List.find?_eq_some_iff_getElem]
  refine ⟨by simp [h2], k, hk, rfl, fun j hj => ?_⟩
  rw [List.all_eq_true] at h1
  have := h1 l[j] (by rw [List.mem_iff_getElem]; exact ⟨j, by simp; omega, by simp⟩)
  simpa using this
theorem find_no {f : Pr → Bool} {l : List Pr} (h : l.all f = true) : (l.find? fun p => !f p) = none := by
  rw [List.find?_eq_none]
  rw [List.all_eq_true] at h
  intro x hx
  simp [h x hx]

def WFs : S := S.mk 74 [(4, .pt 0 0)] [(0, .cells 9 none [.lit (.string ⟨#[]⟩)]), (1, .dfr)] 2 [1] none []
def WFk (N : Nat) (l : List Pr) (k : Nat) : S := if (l.take k).all (okP N) = true then WFs else badS 74

set_option maxHeartbeats 4000000 in
set_option maxRecDepth 20000 in
theorem whyIn_ok (N : Nat) (hN2 : N ≤ 1999) (hN : WhyOk N) (a b : Sh) (ha : rightS a = true) (hb : rightS b = true) (la : limP a) (lb : limP b) (hs : sz a + sz b ≤ N + 1) (h8 : ¬ a.kind = 8) (h9 : ¬ b.kind = 8) (hl : ¬ (a.kind ≠ b.kind ∨ a.kind < 6)) : FnO Try.prog 42 [.agg (rowS a), .agg (rowS b)] (.ret (.lit (.string (bA (whyN (N + 1) a b))))) := by
  have hab : a.kind = b.kind := by omega
  have e1 : innerPs a b = none → whyN (N + 1) a b = wArgs := fun q => by
    rw [whyN, if_neg h8, if_neg h9, if_neg hl]; simp only [q]
  have e2 : ∀ (l : List Pr) (p : Pr), innerPs a b = some l → (l.find? fun p => !okP N p) = some p → whyN (N + 1) a b = if p.lack then wField ++ sB p.w else sB p.w ++ 46 :: whyN N p.a p.b := fun l p q1 q2 => by
    rw [whyN, if_neg h8, if_neg h9, if_neg hl]; simp only [q1, q2]
  have e3 : ∀ l : List Pr, innerPs a b = some l → (l.find? fun p => !okP N p) = none → whyN (N + 1) a b = [] := fun l q1 q2 => by
    rw [whyN, if_neg h8, if_neg h9, if_neg hl]; simp only [q1, q2]
  refine why_from fun I b1 b2 => ?_
  have ht := tbC_ok (P := Try.prog) (g := 70) (sh2T_ok (q := fun _ _ => True) (r := innerD) (fun a b _ => inner_ok a b) (fun a b => by unfold innerD; split <;> (try split) <;> simp)) (tb0_ok _)
  have h3b : (a.kind == 8) = false := by simpa using h8
  have h4b : (b.kind == 8) = false := by simpa using h9
  have h5b : (a.kind != b.kind) = false := by simpa using hab
  have h6b : ¬ a.kind < 6 := by omega
  cases hin : innerPs a b with
  | none =>
    have hk6 : ¬ a.kind = 6 := fun q => by unfold innerPs at hin; rw [if_pos q] at hin; cases hin
    have hlen : ¬ a.kids.length = b.kids.length := fun q => by unfold innerPs at hin; rw [if_neg hk6, if_pos q] at hin; cases hin
    have hD : innerD a b = .tup [.lit .nilFunc, .lit (.bool false)] := by rw [innerD, if_neg hk6, if_neg hlen]
    rw [e1 hin]
    refine w_seq (wx_ok ht fol _ _ _ (by kernel_rfl) ?_)
    simp -implicitDefEqProofs [h3b]
    refine wx_ok ht fol _ _ _ (by kernel_rfl) ?_
    simp -implicitDefEqProofs [h3b, h4b, h5b, h6b, sh2T_eq, hD]
    exact seals_str rfl
  | some l =>
    obtain ⟨gg, hD, hit⟩ : ∃ gg : FuncId, innerD a b = .tup [.fn (.func gg) [] [.ps none (rowS a) 0, .ps none (rowS b) 0], .lit (.bool true)] ∧ IterOk Try.prog gg [] [.ps none (rowS a) 0, .ps none (rowS b) 0] (l.map fun p => [.agg (rowP p)]) := by
      obtain ⟨na1, na2, _⟩ := lim_len la
      obtain ⟨nb1, nb2, _⟩ := lim_len lb
      have hin := hin
      unfold innerPs at hin
      by_cases hk6 : a.kind = 6
      · rw [if_pos hk6] at hin
        cases hin
        have q1 := (right_rec ha hk6).1
        have q2 := (right_rec hb (by omega)).1
        exact ⟨127, by rw [innerD, if_pos hk6], fields1_ok a b (by omega) q1 q2 (by omega)⟩
      · rw [if_neg hk6] at hin
        by_cases hlen : a.kids.length = b.kids.length
        · rw [if_pos hlen] at hin
          cases hin
          have hka := right_kind ha
          exact ⟨130, by rw [innerD, if_neg hk6, if_pos hlen], signature1_ok a b (right_fun ha (by omega)) hlen na1⟩
        · rw [if_neg hlen] at hin; cases hin
    refine w_seq (wx_ok ht fol _ _ _ (by kernel_rfl) ?_)
    simp -implicitDefEqProofs [h3b]
    refine wx_ok ht fol _ _ _ (by kernel_rfl) ?_
    simp -implicitDefEqProofs [h3b, h4b, h5b, h6b, sh2T_eq, hD]
    refine w_rangeB (WFk N l) rfl (by simp) hit (le_of [2, 3] (by simp [WFk, WFs])) (by simp) (fun k t ht => by simp at ht; subst ht; simp only [WFk]; split <;> simp [WFs, badS]) (fun k => by simp only [WFk]; split <;> simp [WFs, badS]) (fun k l' q hq => ?_) (fun x hx => ?_) (fun k x hx I' hI => ?_) ?_
    · simp only [WFk] at hq ⊢
      split at hq
      · rename_i hk
        rw [if_pos hk]
        simp only [WFs, lk] at hq ⊢
        repeat' (first | omega | (split at hq))
        all_goals first | omega | cases hq
      · simp [badS, lk] at hq
    · simp only [List.mem_map] at hx
      obtain ⟨r, hr, rfl⟩ := hx
      simp
    · simp only [List.getElem?_map, Option.map_eq_some_iff] at hx
      obtain ⟨p, hp, rfl⟩ := hx
      have hkl := (List.getElem?_eq_some_iff.1 hp).1
      have hpe : l[k] = p := (List.getElem?_eq_some_iff.1 hp).2
      by_cases hk5 : (l.take k).all (okP N) = true
      · have htk : (l.take (k + 1)).all (okP N) = okP N p := by
          rw [List.take_succ_eq_append_getElem hkl, List.all_append, hk5, hpe]; simp
        have hpl : p ∈ l := by rw [← hpe]; exact List.getElem_mem hkl
        have hwsz := inner_w la lb ha hin hpl
        have hF0 : WFk N l k = WFs := if_pos hk5
        cases hlk : p.lack with
        | true =>
          have hok : okP N p = false := by simp [okP, hlk]
          have hfi := find_at hkl hk5 (by rw [hpe]; exact hok)
          rw [hpe] at hfi
          rw [e2 l p hin hfi, if_pos hlk, hF0]
          obtain ⟨pw, px, py, plk⟩ := p
          simp only at hlk hwsz
          subst hlk
          have hsb : (sB pw).length = pw.size := by simp [sB]
          refine wx_ok (tb0_ok _) fol _ _ _ (by kernel_rfl) ?_
          simp -implicitDefEqProofs [WFs, rowP_lack, zrow]
          intro I2 hI2
          refine wx_ok (tb0_ok _) fol _ _ _ (by kernel_rfl) ?_
          simp -implicitDefEqProofs
          exact ⟨by omega, seals_str rfl⟩
        | false =>
          obtain ⟨g1, g2, g3⟩ := inner_mem ha hb hab h6b h8 hin hpl hlk
          obtain ⟨m1, m2⟩ := inner_lim ha hb hab h6b h8 (P := limP) (fun x hx => limP_kid la hx) (fun x hx => limP_kid lb hx) hin hpl hlk
          have hF := fits_ok N p.a p.b g2 g3 m1 m2 (by omega)
          have hwl := whyN_len N p.a p.b g2 g3 m1 m2
          have ht40 := tbC_ok (P := Try.prog) (g := 40) (sh2T_ok (q := fun x y => x = p.a ∧ y = p.b) (r := fun x y => .lit (.bool (fitsN N x y))) (fun x y h1 => by rw [h1.1, h1.2]; exact hF) (by simp)) (tb0_ok _)
          have e40 := sh2T_eq (fun x y => x = p.a ∧ y = p.b) (fun x y => .lit (.bool (fitsN N x y))) p.a p.b
          cases hf : fitsN N p.a p.b with
          | true =>
            have hok : okP N p = true := by simp [okP, hf, hlk]
            rw [hok] at htk
            have hF1 : WFk N l (k + 1) = WFs := if_pos htk
            rw [hF0, hF1]
            obtain ⟨pw, px, py, plk⟩ := p
            simp only at hlk hwsz hf
            subst hlk
            obtain ⟨kx, nx, lx⟩ := px
            obtain ⟨ky, ny, ly⟩ := py
            simp only [rowS, hf] at e40 ht40
            refine wx_ok ht40 fol _ _ _ (by kernel_rfl) ?_
            simp -implicitDefEqProofs [WFs, rowP_have, rowS]
            intro I2 hI2
            refine wx_ok ht40 fol _ _ _ (by kernel_rfl) ?_
            simp -implicitDefEqProofs [e40]
            exact le_of [0, 1] (by simp)
          | false =>
            have hok : okP N p = false := by simp [okP, hf]
            have hfi := find_at hkl hk5 (by rw [hpe]; exact hok)
            rw [hpe] at hfi
            rw [e2 l p hin hfi, if_neg (by simp [hlk]), hF0]
            have ht42 := tbC_ok (P := Try.prog) (g := 42) (sh2T_ok (q := fun x y => x = p.a ∧ y = p.b) (r := fun x y => .lit (.string (bA (whyN N x y)))) (fun x y h1 => by rw [h1.1, h1.2]; exact hN p.a p.b g2 g3 m1 m2 (by omega) (by omega) hf) (by simp)) ht40
            have e42 := sh2T_eq (fun x y => x = p.a ∧ y = p.b) (fun x y => .lit (.string (bA (whyN N x y)))) p.a p.b
            obtain ⟨pw, px, py, plk⟩ := p
            simp only at hlk hwsz hf hwl
            subst hlk
            have hsb : (sB pw).length = pw.size := by simp [sB]
            obtain ⟨kx, nx, lx⟩ := px
            obtain ⟨ky, ny, ly⟩ := py
            simp only [rowS, hf] at e40 e42 ht42
            refine wx_ok ht42 fol _ _ _ (by kernel_rfl) ?_
            simp -implicitDefEqProofs [WFs, rowP_have, rowS]
            intro I2 hI2
            refine wx_ok ht42 fol _ _ _ (by kernel_rfl) ?_
            simp -implicitDefEqProofs [e40, e42]
            exact ⟨by omega, by omega, seals_str (by simp [bA])⟩
      · intro r M w a' zs hrl hr
        exfalso
        have := hr.t 0 (.lit (.tuple #[])) (by simp [WFk, hk5, badS, lk, up])
        generalize a'.tmps.getD 0 undef = u at this
        cases this with
        | lit _ hv => exact hv
    · by_cases hk : l.all (okP N) = true
      · refine .inr ?_
        rw [e3 l hin (find_no hk)]
        simp -implicitDefEqProofs [WFk, WFs, hk]
        exact seals_str rfl
      · refine .inl ?_
        simp only [WFk, List.length_map, List.take_length, if_neg hk]
        exact badS_bad 74

theorem why_ok : ∀ N, WhyOk N
  | 0 => fun a b _ _ _ _ h _ _ => by have := sz_pos a; omega
  | N + 1 => fun a b ha hb la lb hs hn hf => by
    have hN := why_ok N
    have hd : ¬ (a.kind = 1 ∨ b.kind = 1) := fun q => by rw [fitsN, if_pos q] at hf; cases hf
    by_cases h8 : a.kind = 8
    · rw [fitsN, if_neg hd, if_pos h8] at hf
      cases hk : a.kids.find? fun k => !fitsN N k b with
      | some k => exact whyOrL_ok N (by omega) hN a b ha hb la lb hs h8 k hk
      | none =>
        rw [List.find?_eq_none] at hk
        have : (a.kids.all fun k => fitsN N k b) = true := by
          rw [List.all_eq_true]
          intro x hx
          simpa using hk x hx
        rw [this] at hf; cases hf
    by_cases h : b.kind = 8 ∨ a.kind ≠ b.kind ∨ a.kind < 6
    · exact whyText_ok N a b la lb h8 h
    · exact whyIn_ok N (by omega) hN a b ha hb la lb hs h8 (fun q => h (.inl q)) (fun q => h (.inr q))
end Go.Proofs.Ythlebppdhipanaa
