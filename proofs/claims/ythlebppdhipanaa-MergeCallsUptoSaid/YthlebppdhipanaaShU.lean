/-
  What fits what: the walk.
-/
import Derived.Test.YthlebppdhipanaaShSx
set_option linter.all false
namespace Go.Proofs.Ythlebppdhipanaa
open Go.Ev
open Go.Aw (tiOf fieldsOf sB)

noncomputable def fiT (N : Nat) (q : Sh → Sh → Prop) : List D → Option (Prop × D) := sh2T q (fun a b => .lit (.bool (fitsN N a b)))

/-- What is known below. -/
def FitsOk (N : Nat) : Prop := ∀ a b, rightS a = true → rightS b = true → limP a → limP b → sz a + sz b ≤ N → FnO Try.prog 40 [.agg (rowS a), .agg (rowS b)] (.ret (.lit (.bool (fitsN N a b))))

set_option maxRecDepth 10000 in
theorem fits1_ok (o : Option Nat) (N : Nat) (b k : Sh) (h : FnO Try.prog 40 [.agg (rowS k), .agg (rowS b)] (.ret (.lit (.bool (fitsN N k b))))) : FnO Try.prog 68 [.agg (rowS k), .ps o (rowS b) 0] (.ret (.lit (.bool (!fitsN N k b)))) := by
  have ht := tbC_ok (P := Try.prog) (g := 40) (sh2T_ok (q := fun x y => x = k ∧ y = b) (r := fun x y => .lit (.bool (fitsN N x y))) (fun x y h1 => by rw [h1.1, h1.2]; exact h) (by simp)) (tb0_ok _)
  refine fnO_wx ht fol Try.func68 rfl (by kernel_rfl) (by simp [Try.ntmps68]) (by kernel_rfl) fun I => ?_
  simp -implicitDefEqProofs [Try.ntmps68, sh2T_eq]
  exact seals_bool rfl
set_option maxRecDepth 10000 in
theorem fits2_ok (o : Option Nat) (N : Nat) (a k : Sh) (h : FnO Try.prog 40 [.agg (rowS a), .agg (rowS k)] (.ret (.lit (.bool (fitsN N a k))))) : FnO Try.prog 69 [.agg (rowS k), .ps o (rowS a) 0] (.ret (.lit (.bool (fitsN N a k)))) := by
  have ht := tbC_ok (P := Try.prog) (g := 40) (sh2T_ok (q := fun x y => x = a ∧ y = k) (r := fun x y => .lit (.bool (fitsN N x y))) (fun x y h1 => by rw [h1.1, h1.2]; exact h) (by simp)) (tb0_ok _)
  refine fnO_wx ht fol Try.func69 rfl (by kernel_rfl) (by simp [Try.ntmps69]) (by kernel_rfl) fun I => ?_
  simp -implicitDefEqProofs [Try.ntmps69, sh2T_eq]
  exact seals_bool rfl


theorem lim_len {s : Sh} (h : limP s) : s.kids.length ≤ 1000 ∧ s.names.length ≤ 1000 ∧ ∀ n ∈ s.names, n.size ≤ 1000 := by
  obtain ⟨k, ns, l⟩ := s
  have h1 := h.1
  simp only [limS, Bool.and_eq_true, decide_eq_true_eq, List.all_eq_true] at h1
  exact ⟨h1.2.2.1, h1.1, h1.2.1⟩
noncomputable def coT (gs : FuncId) (caps : List D) (q : Sh → Prop) (f : Sh → Bool) : List D → Option (Prop × D) := ctr (fun l : List Sh => [.sq false 3 (rowsS l), .fn (.func gs) [] caps]) (fun l => l.length ≤ 1000000 ∧ ∀ n ∈ l, q n) (fun l => .lit (.bool (l.any f)))
theorem coT_eq (gs : FuncId) (caps : List D) (q : Sh → Prop) (f : Sh → Bool) (l : List Sh) : coT gs caps q f [.sq false 3 (rowsS l), .fn (.func gs) [] caps] = some (l.length ≤ 1000000 ∧ ∀ n ∈ l, q n, .lit (.bool (l.any f))) := ctr_enc (fun a b h => by simp at h; exact rowsS_inj _ _ h) l
theorem coT_ok {gs : FuncId} {caps : List D} {q : Sh → Prop} {f : Sh → Bool} (h : TakOk gs caps q f) : ∀ xs p d, coT gs caps q f xs = some (p, d) → p → FnO Try.prog 67 xs (.ret d) ∧ D.belL 0 xs = true ∧ D.bel 0 d = true :=
  ctr_ok fun l hl => ⟨contains_ok h l hl.1 hl.2, by simp [h.1], by simp⟩

/-- The walk's beginning: both are laid in boxes that do not change. -/
theorem fits_from {a b : Sh} {v : Bool} (h : ∀ (I : Gh) (b1 b2 : Nat), W Try.prog none I (match Try.f40.body with | some (.seq _ c) => c | _ => .skip) (leavesK Try.prog Try.f40 (fun d s => ∃ d', Seals s.hp d d' ∧ Out.ret (.lit (.bool v)) = .ret d') (fun d s => ∃ d', Seals s.hp d d' ∧ Out.ret (.lit (.bool v)) = .pan d'))
    (S.mk 72 [(0, .agg (rowS a)), (1, .agg (rowS b)), (2, .ps (some b1) (rowS a) 0), (3, .ps (some b2) (rowS b) 0), (4, .lit (.bool false))] [] 2 [] none [])) : FnO Try.prog 40 [.agg (rowS a), .agg (rowS b)] (.ret (.lit (.bool v))) := by
  refine fnO_of Try.func40 rfl (by kernel_rfl) (by simp [Try.ntmps40]) fun I => ?_
  refine w_seq (wx_ok (tb0_ok _) fol _ _ _ (by kernel_rfl) ?_)
  simp -implicitDefEqProofs [Try.ntmps40]
  refine w_frz 2 0 rfl rfl fun b1 => ?_
  refine w_frz 3 1 rfl rfl fun b2 => ?_
  have := h I b1 b2
  simp -implicitDefEqProofs at this ⊢
  exact this

set_option maxHeartbeats 4000000 in
set_option maxRecDepth 20000 in
theorem fitsDyn_ok (N : Nat) (a b : Sh) (h : a.kind = 1 ∨ b.kind = 1) : FnO Try.prog 40 [.agg (rowS a), .agg (rowS b)] (.ret (.lit (.bool (fitsN (N + 1) a b)))) := by
  refine fits_from fun I b1 b2 => w_scope (wx_ok (tb0_ok _) fol _ _ _ (by kernel_rfl) ?_)
  have e : fitsN (N + 1) a b = true := by rw [fitsN, if_pos h]
  by_cases h1 : a.kind = 1
  · simp -implicitDefEqProofs [h1]
    exact seals_bool e
  · have h2 : b.kind = 1 := h.resolve_left h1
    have h1b : (a.kind == 1) = false := by simpa using h1
    simp -implicitDefEqProofs [h1b, h2]
    exact seals_bool e

set_option maxHeartbeats 4000000 in
set_option maxRecDepth 20000 in
theorem fitsLow_ok (N : Nat) (a b : Sh) (h : ¬ (a.kind = 1 ∨ b.kind = 1)) (h8 : ¬ a.kind = 8) (h9 : ¬ b.kind = 8) (hl : a.kind ≠ b.kind ∨ a.kind < 6) : FnO Try.prog 40 [.agg (rowS a), .agg (rowS b)] (.ret (.lit (.bool (fitsN (N + 1) a b)))) := by
  refine fits_from fun I b1 b2 => w_scope (wx_ok (tb0_ok _) fol _ _ _ (by kernel_rfl) ?_)
  have e : fitsN (N + 1) a b = decide (a.kind = b.kind) := by rw [fitsN, if_neg h, if_neg h8, if_neg h9, if_pos hl]
  have h1b : (a.kind == 1) = false := by simpa using fun q => h (.inl q)
  have h2b : (b.kind == 1) = false := by simpa using fun q => h (.inr q)
  have h3b : (a.kind == 8) = false := by simpa using h8
  have h4b : (b.kind == 8) = false := by simpa using h9
  by_cases hq : a.kind = b.kind
  · have hlt : b.kind < 6 := by omega
    have hq1 : (a.kind == b.kind) = true := by simpa using hq
    have hq2 : (a.kind != b.kind) = false := by simpa using hq
    have hlt2 : a.kind < 6 := by omega
    simp -implicitDefEqProofs [h1b, h2b, h3b, h4b, hq1, hq2, hlt, hlt2]
    exact seals_bool (e.trans (by simp [hq]))
  · have hq1 : (a.kind == b.kind) = false := by simpa using hq
    have hq2 : (a.kind != b.kind) = true := by simpa using hq
    simp -implicitDefEqProofs [h1b, h2b, h3b, h4b, hq1, hq2]
    exact seals_bool (e.trans (by simp [hq]))

set_option maxHeartbeats 4000000 in
set_option maxRecDepth 20000 in
theorem fitsOrL_ok (N : Nat) (hN : FitsOk N) (a b : Sh) (ha : rightS a = true) (hb : rightS b = true) (la : limP a) (lb : limP b) (hs : sz a + sz b ≤ N + 1) (h : ¬ (a.kind = 1 ∨ b.kind = 1)) (h8 : a.kind = 8) : FnO Try.prog 40 [.agg (rowS a), .agg (rowS b)] (.ret (.lit (.bool (fitsN (N + 1) a b)))) := by
  refine fits_from fun I b1 b2 => ?_
  have e : fitsN (N + 1) a b = a.kids.all fun k => fitsN N k b := by rw [fitsN, if_neg h, if_pos h8]
  have tk : TakOk 68 [.ps (some b2) (rowS b) 0] (fun k => k ∈ a.kids) (fun k => !fitsN N k b) := ⟨by simp, fun k hk => fits1_ok _ N b k (hN k b (right_kids ha k hk) hb (limP_kid la hk) lb (by have := sz_kid hk; omega))⟩
  have ht := tbC_ok (coT_ok tk) (tb0_ok _)
  refine w_scope (wx_ok ht fol _ _ _ (by kernel_rfl) ?_)
  have h1b : (a.kind == 1) = false := by simpa using fun q => h (.inl q)
  have h2b : (b.kind == 1) = false := by simpa using fun q => h (.inr q)
  have hl := (lim_len la).1
  have hl2 : a.kids.length ≤ 1000000 := by omega
  simp -implicitDefEqProofs [h1b, h2b, h8, coT_eq, hl2]
  exact seals_bool (e.trans (by rw [List.all_eq_not_any_not]))

set_option maxHeartbeats 4000000 in
set_option maxRecDepth 20000 in
theorem fitsOrR_ok (N : Nat) (hN : FitsOk N) (a b : Sh) (ha : rightS a = true) (hb : rightS b = true) (la : limP a) (lb : limP b) (hs : sz a + sz b ≤ N + 1) (h : ¬ (a.kind = 1 ∨ b.kind = 1)) (h8 : ¬ a.kind = 8) (h9 : b.kind = 8) : FnO Try.prog 40 [.agg (rowS a), .agg (rowS b)] (.ret (.lit (.bool (fitsN (N + 1) a b)))) := by
  refine fits_from fun I b1 b2 => ?_
  have e : fitsN (N + 1) a b = b.kids.any fun k => fitsN N a k := by rw [fitsN, if_neg h, if_neg h8, if_pos h9]
  have tk : TakOk 69 [.ps (some b1) (rowS a) 0] (fun k => k ∈ b.kids) (fun k => fitsN N a k) := ⟨by simp, fun k hk => fits2_ok _ N a k (hN a k ha (right_kids hb k hk) la (limP_kid lb hk) (by have := sz_kid hk; omega))⟩
  have ht := tbC_ok (coT_ok tk) (tb0_ok _)
  refine w_scope (wx_ok ht fol _ _ _ (by kernel_rfl) ?_)
  have h1b : (a.kind == 1) = false := by simpa using fun q => h (.inl q)
  have h2b : (b.kind == 1) = false := by simpa using fun q => h (.inr q)
  have h3b : (a.kind == 8) = false := by simpa using h8
  have hl := (lim_len lb).1
  have hl2 : b.kids.length ≤ 1000000 := by omega
  simp -implicitDefEqProofs [h1b, h2b, h3b, h9, coT_eq, hl2]
  exact seals_bool e

theorem inner_lim {a b : Sh} (ha : rightS a = true) (hb : rightS b = true) (hk : a.kind = b.kind) (h6 : ¬ a.kind < 6) (h8 : a.kind ≠ 8) {P : Sh → Prop} (pa : ∀ x ∈ a.kids, P x) (pb : ∀ x ∈ b.kids, P x) {l : List Pr} (hl : innerPs a b = some l) {p : Pr} (hp : p ∈ l) (hn : p.lack = false) : P p.a ∧ P p.b := by
  have hka := right_kind ha
  unfold innerPs at hl
  split at hl
  · rename_i h6
    cases hl
    rcases List.mem_append.1 hp with hp | hp
    · rw [lackPs_mem hp] at hn; cases hn
    · obtain ⟨_, ⟨j, n, hj, he⟩, hq⟩ := havePs_mem hp
      obtain ⟨hjl, _⟩ := idxO_lt hj
      have hjk : j < a.kids.length := by rw [(right_rec ha h6).1]; exact hjl
      rw [he]
      exact ⟨pa _ (kid_mem hjk), pb _ hq⟩
  · rename_i h6'
    split at hl
    · rename_i hlen
      cases hl
      have h7 : a.kind = 7 := by omega
      have h0 := right_fun ha h7
      rcases List.mem_append.1 hp with hp | hp
      · rw [List.mem_map] at hp
        obtain ⟨i, hi, rfl⟩ := hp
        rw [List.mem_range] at hi
        exact ⟨pb _ (kid_mem (by omega)), pa _ (kid_mem (by omega))⟩
      · simp at hp
        subst hp
        exact ⟨pa _ (kid_mem (by omega)), pb _ (kid_mem (by omega))⟩
    · cases hl

@[simp] theorem wp_label_eq {md : Bool} {P : Program} {rl : Option Nat} {I : Gh} {tb : Tb} {l : Nat} {Q : X → S → Prop} {s : S} : WP md P rl I tb (.label l) Q s = Q .normal s := rfl
def FFs : S := S.mk 72 [(4, .lit (.bool false)), (7, .pt 0 0)] [(0, .cells 4 none [.lit (.bool true)]), (1, .dfr)] 2 [1] none []
def okP (N : Nat) (p : Pr) : Bool := !p.lack && fitsN N p.a p.b
def FFk (N : Nat) (l : List Pr) (k : Nat) : S := if (l.take k).all (okP N) = true then FFs else badS 72

set_option maxHeartbeats 4000000 in
set_option maxRecDepth 20000 in
theorem fitsIn_ok (N : Nat) (hN : FitsOk N) (a b : Sh) (ha : rightS a = true) (hb : rightS b = true) (la : limP a) (lb : limP b) (hs : sz a + sz b ≤ N + 1) (h : ¬ (a.kind = 1 ∨ b.kind = 1)) (h8 : ¬ a.kind = 8) (h9 : ¬ b.kind = 8) (hl : ¬ (a.kind ≠ b.kind ∨ a.kind < 6)) : FnO Try.prog 40 [.agg (rowS a), .agg (rowS b)] (.ret (.lit (.bool (fitsN (N + 1) a b)))) := by
  refine fits_from fun I b1 b2 => ?_
  have hab : a.kind = b.kind := by omega
  have e : fitsN (N + 1) a b = (match innerPs a b with | some l => l.all (okP N) | none => false) := by rw [fitsN, if_neg h, if_neg h8, if_neg h9, if_neg hl]; rfl
  have ht := tbC_ok (P := Try.prog) (g := 70) (sh2T_ok (q := fun _ _ => True) (r := innerD) (fun a b _ => inner_ok a b) (fun a b => by unfold innerD; split <;> (try split) <;> simp)) (tb0_ok _)
  have h1b : (a.kind == 1) = false := by simpa using fun q => h (.inl q)
  have h2b : (b.kind == 1) = false := by simpa using fun q => h (.inr q)
  have h3b : (a.kind == 8) = false := by simpa using h8
  have h4b : (b.kind == 8) = false := by simpa using h9
  have h5b : (a.kind != b.kind) = false := by simpa using hab
  have h6b : ¬ a.kind < 6 := by omega
  -- what the pairs are
  cases hin : innerPs a b with
  | none =>
    have hk6 : ¬ a.kind = 6 := fun q => by unfold innerPs at hin; rw [if_pos q] at hin; cases hin
    have hlen : ¬ a.kids.length = b.kids.length := fun q => by unfold innerPs at hin; rw [if_neg hk6, if_pos q] at hin; cases hin
    have hD : innerD a b = .tup [.lit .nilFunc, .lit (.bool false)] := by rw [innerD, if_neg hk6, if_neg hlen]
    refine w_scope (wx_ok ht fol _ _ _ (by kernel_rfl) ?_)
    simp -implicitDefEqProofs [h1b, h2b, h3b, h4b, h5b, h6b, sh2T_eq, hD]
    exact seals_bool (e.trans (by rw [hin]))
  | some l =>
    obtain ⟨gg, hD, hit⟩ : ∃ gg : FuncId, innerD a b = .tup [.fn (.func gg) [] [.ps none (rowS a) 0, .ps none (rowS b) 0], .lit (.bool true)] ∧ IterOk Try.prog gg [] [.ps none (rowS a) 0, .ps none (rowS b) 0] (l.map fun p => [.agg (rowP p)]) := by
      obtain ⟨na1, na2, _⟩ := lim_len la
      obtain ⟨nb1, nb2, _⟩ := lim_len lb
      unfold innerPs at hin
      by_cases hk6 : a.kind = 6
      · rw [if_pos hk6] at hin
        cases hin
        have q1 := (right_rec ha hk6).1
        have q2 := (right_rec hb (by omega)).1
        exact ⟨127, by rw [innerD, if_pos hk6], fields1_ok a b (by omega) q1 q2 (by omega)⟩
      · rw [if_neg hk6] at hin
        by_cases hlen : a.kids.length = b.kids.length
        · rw [if_pos hlen] at hin
          cases hin
          have hka := right_kind ha
          exact ⟨130, by rw [innerD, if_neg hk6, if_pos hlen], signature1_ok a b (right_fun ha (by omega)) hlen na1⟩
        · rw [if_neg hlen] at hin; cases hin
    refine w_scope (wx_ok ht fol _ _ _ (by kernel_rfl) ?_)
    simp -implicitDefEqProofs [h1b, h2b, h3b, h4b, h5b, h6b, sh2T_eq, hD]
    refine w_rangeB (FFk N l) rfl (by simp) hit (le_of [2, 3] (by simp [FFk, FFs])) (by simp) (fun k t ht => by simp at ht; subst ht; simp only [FFk]; split <;> simp [FFs, badS]) (fun k => by simp only [FFk]; split <;> simp [FFs, badS]) (fun k l' q hq => ?_) (fun x hx => ?_) (fun k x hx I' hI => ?_) ?_
    · simp only [FFk] at hq ⊢
      split at hq
      · rename_i hk
        rw [if_pos hk]
        simp only [FFs, lk] at hq ⊢
        repeat' (first | omega | (split at hq))
        all_goals first | omega | cases hq
      · simp [badS, lk] at hq
    · simp only [List.mem_map] at hx
      obtain ⟨r, hr, rfl⟩ := hx
      simp
    · simp only [List.getElem?_map, Option.map_eq_some_iff] at hx
      obtain ⟨p, hp, rfl⟩ := hx
      have hkl := (List.getElem?_eq_some_iff.1 hp).1
      have hpe : l[k] = p := (List.getElem?_eq_some_iff.1 hp).2
      by_cases hk5 : (l.take k).all (okP N) = true
      · have htk : (l.take (k + 1)).all (okP N) = okP N p := by
          rw [List.take_succ_eq_append_getElem hkl, List.all_append, hk5, hpe]; simp
        have hpl : p ∈ l := by rw [← hpe]; exact List.getElem_mem hkl
        cases hlk : p.lack with
        | true =>
          have hok : okP N p = false := by simp [okP, hlk]
          obtain ⟨pw, px, py, plk⟩ := p
          simp only at hlk
          subst hlk
          refine wx_ok (tb0_ok _) fol _ _ _ (by kernel_rfl) ?_
          simp -implicitDefEqProofs [FFk, FFs, hk5, rowP_lack, zrow]
          intro I2 hI2
          refine wx_ok (tb0_ok _) fol _ _ _ (by kernel_rfl) ?_
          simp -implicitDefEqProofs
          have hall : l.all (okP N) = false := by
            rw [List.all_eq_false]
            exact ⟨_, hpl, by simp [okP]⟩
          exact seals_bool (e.trans (by rw [hin]; exact hall))
        | false =>
          obtain ⟨g1, g2, g3⟩ := inner_mem ha hb hab h6b h8 hin hpl hlk
          obtain ⟨m1, m2⟩ := inner_lim ha hb hab h6b h8 (P := limP) (fun x hx => limP_kid la hx) (fun x hx => limP_kid lb hx) hin hpl hlk
          have hF := hN p.a p.b g2 g3 m1 m2 (by omega)
          have ht40 := tbC_ok (P := Try.prog) (g := 40) (sh2T_ok (q := fun x y => x = p.a ∧ y = p.b) (r := fun x y => .lit (.bool (fitsN N x y))) (fun x y h1 => by rw [h1.1, h1.2]; exact hF) (by simp)) (tb0_ok _)
          have e40 := sh2T_eq (fun x y => x = p.a ∧ y = p.b) (fun x y => .lit (.bool (fitsN N x y))) p.a p.b
          obtain ⟨pw, px, py, plk⟩ := p
          simp only at hlk
          subst hlk
          simp only at e40 ht40 htk
          cases hf : fitsN N px py with
          | true =>
            have hok : okP N ⟨pw, px, py, false⟩ = true := by simp [okP, hf]
            rw [hok] at htk
            have hF0 : FFk N l k = FFs := if_pos hk5
            have hF1 : FFk N l (k + 1) = FFs := if_pos htk
            rw [hF0, hF1]
            obtain ⟨kx, nx, lx⟩ := px
            obtain ⟨ky, ny, ly⟩ := py
            simp only [rowS, hf] at e40
            refine wx_ok ht40 fol _ _ _ (by kernel_rfl) ?_
            simp -implicitDefEqProofs [FFs, rowP_have, rowS]
            intro I2 hI2
            refine wx_ok ht40 fol _ _ _ (by kernel_rfl) ?_
            simp -implicitDefEqProofs [e40]
            exact le_of [0, 1] (by simp)
          | false =>
            obtain ⟨kx, nx, lx⟩ := px
            obtain ⟨ky, ny, ly⟩ := py
            simp only [rowS, hf] at e40
            refine wx_ok ht40 fol _ _ _ (by kernel_rfl) ?_
            simp -implicitDefEqProofs [FFk, FFs, hk5, rowP_have, rowS]
            intro I2 hI2
            refine wx_ok ht40 fol _ _ _ (by kernel_rfl) ?_
            simp -implicitDefEqProofs [e40]
            have hall : l.all (okP N) = false := by
              rw [List.all_eq_false]
              exact ⟨_, hpl, by simp [okP, hf]⟩
            exact seals_bool (e.trans (by rw [hin]; exact hall))
      · intro r M w a zs hrl hr
        exfalso
        have := hr.t 0 (.lit (.tuple #[])) (by simp [FFk, hk5, badS, lk, up])
        generalize a.tmps.getD 0 undef = u at this
        cases this with
        | lit _ hv => exact hv
    · by_cases hk : l.all (okP N) = true
      · refine .inr ?_
        simp -implicitDefEqProofs [FFk, FFs, hk]
        exact seals_bool (e.trans (by rw [hin]; exact hk))
      · refine .inl ?_
        simp only [FFk, List.length_map, List.take_length, if_neg hk]
        exact badS_bad 72

theorem fits_ok : ∀ N, FitsOk N
  | 0 => fun a b _ _ _ _ h => by have := sz_pos a; omega
  | N + 1 => fun a b ha hb la lb hs => by
    have hN := fits_ok N
    by_cases h : a.kind = 1 ∨ b.kind = 1
    · exact fitsDyn_ok N a b h
    by_cases h8 : a.kind = 8
    · exact fitsOrL_ok N hN a b ha hb la lb hs h h8
    by_cases h9 : b.kind = 8
    · exact fitsOrR_ok N hN a b ha hb la lb hs h h8 h9
    by_cases hl : a.kind ≠ b.kind ∨ a.kind < 6
    · exact fitsLow_ok N a b h h8 h9 hl
    · exact fitsIn_ok N hN a b ha hb la lb hs h h8 h9 hl
end Go.Proofs.Ythlebppdhipanaa
