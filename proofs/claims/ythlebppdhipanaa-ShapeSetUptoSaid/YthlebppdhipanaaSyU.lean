/-
  Calls of which the body is walked where they stand: the caller's memory may be changed.
-/
import Derived.Test.YthlebppdhipanaaSyT
set_option linter.all false
namespace Go.Ev
open Go.Aw (WF enters callFunc_run)

/-- The callee's first state: the caller's slots are kept aside. -/
def S.inl (s : S) (n : Nat) (args : List D) : S := S.mk n (argsL 0 args) s.hp s.nx [] s.g (s.tm.map (·.2) ++ s.ex)
/-- The caller's state behind the call. -/
def S.outl (s s1 : S) : S := S.mk s.n ((s.tm.map (·.1)).zip (s1.ex.take s.tm.length)) s1.hp s1.nx [] s1.g (s1.ex.drop s.tm.length)

theorem lk_zip {α : Type} : ∀ (ks : List Nat) (ds : List α) (t : Nat) (d : α), lk (ks.zip ds) t = some d → ∃ i : Nat, ks[i]? = some t ∧ ds[i]? = some d
  | [], _, t, d, h => by simp [lk] at h
  | _ :: _, [], t, d, h => by simp [lk] at h
  | k :: ks, e :: ds, t, d, h => by
    simp only [List.zip_cons_cons, lk] at h
    split at h
    · rename_i hk
      cases h
      exact ⟨0, by simp [hk], rfl⟩
    · obtain ⟨i, h1, h2⟩ := lk_zip ks ds t d h
      exact ⟨i + 1, by simpa using h1, by simpa using h2⟩

theorem callF_inline {P : Program} {I : Gh} {g : FuncId} {fn : Func} {c : Code} (hf : P.funcs[g]? = some fn) (hb : fn.body = some c) (he : enters P g = true) {args : List D} (hn : args.length ≤ fn.ntmps) {s : S} (hdf : s.df = []) (hky : keysOk s.tm = true) {K Kp : D → S → Prop}
    (h : W P none I c (leavesK P fn (fun d s1 => K d (s.outl s1)) (fun d s1 => Kp d (s.outl s1))) (s.inl fn.ntmps args)) : CallF P none I g args s K Kp := by
  intro r M w a zs hrl hr hg vs hvs
  let zs' : Nat → Value := fun i => if i < s.tm.length then a.tmps.getD ((s.tm.map (·.1))[i]?.getD 0) undef else zs (i - s.tm.length)
  refine .inl ⟨he, (calls_body hf hb (M := M) (zs := zs') h ?_ hg).mono ?_⟩
  · refine ⟨hr.h, by simp [S.inl, hvs.1]; omega, fun t d ht => ?_, ⟨[], rfl, rfl, fun i l hl => by simp [S.inl] at hl⟩, fun i d hi => ?_⟩
    · obtain ⟨h1, h2⟩ := lk_argsL args 0 t d ht
      simp only [Nat.sub_zero] at h2
      have hlt : t < vs.size := by rw [hvs.1]; exact (List.getElem?_eq_some_iff.1 h2).1
      have := hvs.2 t d h2
      rwa [show (vs ++ Array.replicate (fn.ntmps - vs.size) undef).getD t undef = vs.getD t undef by
        simp only [Array.getD_eq_getD_getElem?]
        rw [Array.getElem?_append_left hlt]]
    · simp only [S.inl] at hi
      by_cases hlt : i < s.tm.length
      · rw [List.getElem?_append_left (by simpa using hlt), List.getElem?_map] at hi
        rw [List.getElem?_eq_getElem hlt] at hi
        simp only [Option.map_some, Option.some.injEq] at hi
        have e1 : zs' i = a.tmps.getD s.tm[i].1 undef := by simp [zs', hlt]
        rw [e1]
        refine hr.t _ d ?_
        rw [← hi]
        exact keysOk_lk s.tm hky i s.tm[i] (List.getElem?_eq_getElem hlt)
      · rw [List.getElem?_append_right (by simpa using hlt)] at hi
        simp only [List.length_map] at hi
        have e1 : zs' i = zs (i - s.tm.length) := by simp [zs', hlt]
        rw [e1]
        exact hr.ex _ d hi
  · rintro e w' ⟨M', s', o', a', h1, h2, h3, h4⟩
    refine ⟨M', s.outl s', o', ⟨h1.h, hr.sz, fun t d ht => ?_, ?_, fun i d hi => ?_⟩, h2, ?_, h3, h4⟩
    · obtain ⟨i, k1, k2⟩ := lk_zip _ _ _ _ ht
      rw [List.getElem?_take] at k2
      split at k2
      · rename_i hlt
        have := h1.ex i d k2
        have e1 : zs' i = a.tmps.getD t undef := by simp only [zs', if_pos hlt, k1, Option.getD_some]
        rwa [e1] at this
      · cases k2
    · refine ⟨[], df_nil hr hdf, rfl, fun i l hl => by simp [S.outl] at hl⟩
    · simp only [S.outl, List.getElem?_drop] at hi
      have := h1.ex _ d hi
      have e1 : zs' (s.tm.length + i) = zs i := by
        have hnl : ¬ s.tm.length + i < s.tm.length := by omega
        simp only [zs', if_neg hnl, Nat.add_sub_cancel_left]
      rwa [e1] at this
    · cases r with
      | none => trivial
      | some _ => exact hrl.elim

/-- A call, walked where it stands. -/
theorem callS_inline {P : Program} {I : Gh} {gg : FuncId} {fn : Func} {c : Code} (hf : P.funcs[gg]? = some fn) (hb : fn.body = some c) (hen : enters P gg = true) {first caps args : List D} (hn : (first ++ (args ++ caps)).length ≤ fn.ntmps) {so : Prop} {g : Option (Nat × Bool)} {dst : Option Tmp} {s : S} {K : S → Prop} {Kp : D → S → Prop}
    (hdf : s.df = []) (hky : keysOk s.tm = true) (hso : so)
    (h : W P none I c (leavesK P fn (fun d s1 => (s.outl s1).room dst ∧ K ((s.outl s1).put dst d)) (fun d s1 => Kp d (s.outl s1))) (s.inl fn.ntmps (first ++ (args ++ caps)))) : CallS P none I true (.fn (.func gg) first caps) args so g dst s K Kp :=
  .inr ⟨fun _ => ⟨hso, callF_inline hf hb hen hn hdf hky h⟩, fun h => by cases h⟩
end Go.Ev
namespace Go.Ev
open Go.Aw (enters)
/-- A call that leaves all as it was below the heap's end. -/
theorem post_below {fz : Nat → Option (Array Value)} {w w' : World} (hi : Inv (Mem.none fz) w) (h : RowKit.Below w.heap.size w w') : Inv (Mem.none fz) w' ∧ ExtW (Mem.none fz) w (Mem.none fz) w' := by
  have hlt : ∀ b c, fz b = some c → b < w.heap.size := fun b c e => by
    obtain ⟨ty, fr, h1⟩ := hi.fz b c e
    exact (Array.getElem?_eq_some_iff.1 h1).1
  refine ⟨⟨fun _ _ _ _ _ e => (by cases e), fun _ _ _ e => (by cases e), fun _ _ _ e => (by cases e), fun b c e => ?_, fun _ _ _ _ _ e => (by cases e)⟩,
    ⟨h.os, h.tape, h.output, h.size, fun b hb _ => h.block b hb, fun _ _ _ e => (by cases e), fun _ _ e => e, fun _ _ e => .inl e⟩⟩
  obtain ⟨ty, fr, h1⟩ := hi.fz b c e
  exact ⟨ty, fr, (h.block b (hlt b c e)).trans h1⟩

/-- Rows of texts, as they lie. -/
def strsD (xs : List ByteArray) : List (List D) := xs.map fun x => [.lit (.string x)]

theorem strs_cells {M : Mem} {w : World} (hi : Inv M w) {f : Bool} {xs : List ByteArray} {v : Value} (h : R M (.sq f 1 (strsD xs)) v) : (∃ a, v = .slice a 0 0 ∧ xs = []) ∨
    ∃ b off k, v = .slice (some ⟨b, off, none⟩) xs.length k ∧ xs.length ≤ k ∧ b < w.heap.size ∧ ∀ (j : Nat) x, xs[j]? = some x → w.cell? ⟨b, off + j, none⟩ = some (.string x) := by
  generalize hr : strsD xs = rows at h
  cases h with
  | sqn _ _ a => exact .inl ⟨a, rfl, by simpa [strsD] using hr⟩
  | sq _ _ _ b off k c V hb hn hm hf hz h1 h2 =>
    subst hr
    obtain ⟨ty, fr, h3⟩ := hi.fz b c hb
    refine .inr ⟨b, off, k, by simp [strsD], by simpa [strsD] using hn, (Array.getElem?_eq_some_iff.1 h3).1, fun j x hj => ?_⟩
    have e1 : (strsD xs)[j]? = some [.lit (.string x)] := by simp [strsD, hj]
    obtain ⟨h4, _⟩ := h1 j _ 0 (.lit (.string x)) e1 rfl
    have h5 := h2 j _ 0 (.lit (.string x)) e1 rfl
    rw [h5.litE] at h4
    simp only [World.cell?, h3]
    simpa using h4
end Go.Ev
namespace Go.Ev
open Go.Aw (enters)
def isD (d0 : D) : Option (D × H) → Bool
  | some (d, _) => dEqb d d0
  | none => false

theorem fnO_of_engD {P : Program} {cf : CF} (hcf : SF P cf) {g : FuncId} (hen : enters P g = true) {args : List D} {d0 : D} (hb : D.bel 0 d0 = true) (hc : isD d0 (cf g args { hp := .e, nx := 0 }) = true) : FnO P g args (.ret d0) := by
  refine .inl ⟨hen, fun fz w vs hi hvs => ?_⟩
  unfold isD at hc
  split at hc
  case h_2 => cases hc
  rename_i d h hcall
  have hd := dEqb_eq _ _ hc
  subst hd
  rcases hcf _ _ _ _ _ hcall with ⟨_, h1⟩ | ⟨h1, _⟩
  · refine (h1 (Mem.none fz) w vs ⟨hi, fun _ _ e => (by simp [T.get] at e), rfl⟩ hvs).mono ?_
    rintro x w' ⟨v', M', rfl, g1, g2, g3⟩
    refine ⟨M'.fz, ⟨_, rfl, g2.free hb (fun _ _ e => e)⟩, inv_none g1.inv, ?_⟩
    have := g3.w
    exact ⟨this.os, this.tape, this.output, this.size, this.keep, fun l b c e => (by cases e), this.fz, this.fznew⟩
  · rw [hen] at h1; cases h1
end Go.Ev
