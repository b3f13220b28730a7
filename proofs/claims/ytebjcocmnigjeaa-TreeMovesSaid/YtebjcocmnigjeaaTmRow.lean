/-
  The law TreeMoves returns true at every input, and what was handed over reads behind the call as it read ahead of it. There are no conditions.
-/
import Derived.Test.YtebjcocmnigjeaaTmc
import Derived.Test.YtebjcocmnigjeaaSyT
import Derived.Test.YtebjcocmnigjeaaRows
import Derived.KernelRfl
import Derived.ChangeVars
import Derived.JoinedOf
import Derived.RowKitTokens
import Derived.LaidLaws
import Derived.MakeChecks
import Derived.Carry
namespace Go.Proofs.Ytebjcocmnigjeaa
open Go.ChangeShapes Go.WideShapes Go.RowKit
open Go.Ev (TD TDf plainT read_agg R argsOk FnO)

theorem td_3 {n : Nat} {row : List Go.Ev.D} (h : TD Try.prog n 3 row) : ∃ i, row = [.lit (.int .i64 i)] := by
  cases n with
  | zero => cases h
  | succ n =>
    simp only [TD, Try.underlying3] at h
    obtain ⟨i, _, h⟩ := h
    exact ⟨i, h⟩
theorem td_9 {n : Nat} {row : List Go.Ev.D} (h : TD Try.prog n 9 row) : ∃ s, row = [.lit (.string s)] := by
  cases n with
  | zero => cases h
  | succ n =>
    simp only [TD, Try.underlying9] at h
    obtain ⟨i, _, h⟩ := h
    exact ⟨i, h⟩
theorem td_23 {n : Nat} {row : List Go.Ev.D} (h : TD Try.prog n 23 row) : ∃ a b, row = [.lit (.int .i64 a), .lit (.int .i64 b)] := by
  cases n with
  | zero => cases h
  | succ n =>
    simp only [TD, Try.underlying23, TDf] at h
    obtain ⟨a, b, rfl, h1, c, d, rfl, h2, rfl⟩ := h
    obtain ⟨i, rfl⟩ := td_3 h1
    obtain ⟨j, rfl⟩ := td_3 h2
    exact ⟨i, j, rfl⟩

theorem td_nds {m : Nat} (ih : ∀ row, TD Try.prog m 26 row → ∃ x : Nd, row = rowN x) : ∀ rows : List (List Go.Ev.D), (∀ r ∈ rows, TD Try.prog m 26 r) → ∃ l : List Nd, rows = rowsN l
  | [], _ => ⟨[], rfl⟩
  | r :: q, h => by
    obtain ⟨x, hx⟩ := ih r (h r (by simp))
    obtain ⟨l, hl⟩ := td_nds ih q fun s hs => h s (by simp [hs])
    exact ⟨x :: l, by simp [rowsN, hx, hl]⟩

theorem td_nd : ∀ (n : Nat) (row : List Go.Ev.D), TD Try.prog n 26 row → ∃ x : Nd, row = rowN x := by
  intro n
  induction n using Nat.strongRecOn with
  | ind n ih =>
    intro row h
    cases n with
    | zero => cases h
    | succ n =>
      simp only [TD, Try.underlying26, TDf] at h
      obtain ⟨a, _, rfl, h1, b, _, rfl, h2, c, _, rfl, h3, d, _, rfl, h4, rfl⟩ := h
      obtain ⟨k, rfl⟩ := td_3 h1
      obtain ⟨i, j, rfl⟩ := td_23 h2
      obtain ⟨t, rfl⟩ := td_9 h3
      cases n with
      | zero => cases h4
      | succ n =>
        simp only [TD, Try.underlying24] at h4
        obtain ⟨rows, rfl, h5⟩ := h4
        obtain ⟨l, rfl⟩ := td_nds (ih n (by omega)) rows h5
        exact ⟨.mk k i j t l, by simp [rowN, show Try.prog.cellsOf 26 = 5 by kernel_rfl]⟩

theorem Try.own : ownKnob Try.prog.godebug = none := by kernel_rfl
theorem Try.laidOut : laidOutB Try.prog = true := by kernel_rfl

theorem law_calls (W : World) (cs : Array Value) (H : Type) (enc : TypeId × Value → H) (d : DataW H) (ps : List MemPlace) (by_ : Int) (h : DataW.Trod enc Try.prog W 0 (fun _ => true) true 26 (.agg cs) d ps) :
    Calls Try.prog 3 #[.agg cs, .int .i64 by_] W fun e W' => e = .returned (.bool true) ∧ Below W.heap.size W W' ∧ ∀ may, W.keptBut W' may := by
  obtain ⟨n, row, h1, h2⟩ := read_agg (ts := [26, 24, 23, 9, 3]) (by kernel_rfl) (by kernel_rfl) h
  obtain ⟨x, rfl⟩ := td_nd n row h1
  refine (law_ok x by_).calls (by kernel_rfl) ⟨rfl, fun i d hi => ?_⟩
  match i, hi with
  | 0, hi => simp at hi; subst hi; exact h2
  | 1, hi => simp at hi; subst hi; exact .lit _ trivial
  | i + 2, hi => simp at hi

set_option maxRecDepth 100000 in
theorem law_lifted (os : Os) (started : os.Started) (H : Type) (enc : TypeId × Value → H) :
    ReturnsInHanded {} Try.checked os 3 .any (Rows.treeMovesSpec.pre6 enc Try.prog Try.f3 [] false)
      (Rows.treeMovesSpec.post enc Try.prog Try.f3 false true false false) := by
  refine returnsInHanded_of_change (C := Try.checked) Try.own started (by kernel_rfl) Try.func3
    (ChangeSpec.witness6 (enc := enc) (C := Try.checked) (os := os) false ⟨#[], #[.agg #[.int .i64 0, .int .i64 0, .int .i64 0, .string ⟨#[]⟩, .slice none 0 0], .int .i64 0], []⟩ 8 (by kernel_rfl) (by kernel_rfl) (by kernel_rfl) (by kernel_rfl)) ?_
  intro W base args ds gs before hval0 hW _ _
  have hval : ∀ (j : Nat) t v, Try.f3.params[j]? = some t → args[j]? = some v → Value.okWide Try.prog W .any base t v := hval0
  have hW' := hW
  have hlt0 := hW.lt
  obtain ⟨p, q, hA0, hV0, rfl, hfz, hnd⟩ := hW
  have hA : DataW.TrodAll enc Try.prog W 0 (fun _ => true) true Try.f3.params.toList args.toList ds p := hA0
  have hV : DataW.TrodVars enc Try.prog W (fun _ => true) [] gs q := hV0
  rw [Try.params3] at hA hval
  obtain ⟨v0, v1, d0, d1, p0, p1, rfl, rfl, rfl, h0, h1⟩ := trodAll_two hA
  obtain ⟨m, rfl, rfl, rfl, hwn⟩ := open_int Try.underlying3 (hval 1 3 v1 rfl rfl) h1
  obtain ⟨rfl, rfl⟩ : gs = [] ∧ q = [] := by
    cases gs with
    | nil => exact ⟨rfl, hV⟩
    | cons g r => exact absurd hV (by intro h; cases h)
  obtain ⟨cs, rfl⟩ : ∃ cs, v0 = .agg cs := by
    have := hval 0 26 v0 rfl rfl
    unfold Value.okWide at this
    rw [Try.underlying26] at this
    obtain ⟨cs, h, _⟩ := this
    exact ⟨cs, h⟩
  have hlt : ∀ x ∈ p0, x.block < W.heap.size := fun x hx => hlt0 x (by simp [hx])
  have e1 : Rows.treeMovesSpec.fn H ([d0, .lit (.int .i64 m)] ++ []) = { results := [.lit (.bool true)], args := [d0, .lit (.int .i64 m)] } := by simp [Rows.treeMovesSpec]
  refine (law_calls W cs H enc d0 p0 m h0).mono fun e W' ⟨he, hb, hw⟩ => ?_
  subst he
  refine ⟨_, rfl, _, _, _, [], p0 ++ [], [], hW', ?_, ?_, ?_, hw _, fun h => by cases h⟩
  · rw [e1]; exact trodAll_mk1 (shut_bool Try.underlying4 true)
  · rw [e1]; exact trodAll_mk2 (Below.trod Try.laidOut (by kernel_rfl) (of_decide_eq_true (by kernel_rfl)) h0 hb hlt) (shut_int Try.underlying3 hwn)
  · rw [e1]; rfl

theorem treeMoves_holds : Rows.TreeMovesSaid :=
  OpenClaim.holds_of_wide 3 Try.f3 rfl rfl rfl rfl rfl rfl rfl ⟨rfl, rfl, rfl, rfl, rfl⟩ rfl rfl rfl rfl rfl (by kernel_rfl) Try.func3 (by kernel_rfl)
    (of_decide_eq_true (by kernel_rfl)) (by unfold Func.isWrapper; rw [if_neg (of_decide_eq_false (by kernel_rfl))]; exact ⟨rfl, rfl⟩)
    (fun os started H enc _ => law_lifted os started H enc)
end Go.Proofs.Ytebjcocmnigjeaa
