/-
  The law SubtypeChain returns true at every input, and what was handed over reads behind the call as it read ahead of it. There are no conditions.
-/
import Derived.Test.YthlebppdhipanaaShXc
import Derived.Test.YthlebppdhipanaaSyT
import Derived.Test.YthlebppdhipanaaRows
import Derived.KernelRfl
import Derived.ChangeVars
import Derived.JoinedOf
import Derived.RowKitTokens
import Derived.LaidLaws
import Derived.MakeChecks
import Derived.Carry
set_option linter.all false
namespace Go.Proofs.Ythlebppdhipanaa
open Go.ChangeShapes Go.WideShapes Go.RowKit
open Go.Ev (TD TDf plainT read_agg R argsOk FnO)

theorem td_3 {n : Nat} {row : List Go.Ev.D} (h : TD Try.prog n 3 row) : ∃ i, row = [.lit (.int .i64 i)] := by
  cases n with
  | zero => cases h
  | succ n =>
    simp only [TD, Try.underlying3] at h
    obtain ⟨i, _, h⟩ := h
    exact ⟨i, h⟩
theorem td_9 {n : Nat} {row : List Go.Ev.D} (h : TD Try.prog n 9 row) : ∃ s, row = [.lit (.string s)] := by
  cases n with
  | zero => cases h
  | succ n =>
    simp only [TD, Try.underlying9] at h
    obtain ⟨i, _, h⟩ := h
    exact ⟨i, h⟩
theorem td_strs {m : Nat} : ∀ rows : List (List Go.Ev.D), (∀ r ∈ rows, TD Try.prog m 9 r) → ∃ l : List ByteArray, rows = Go.Ev.strsD l
  | [], _ => ⟨[], rfl⟩
  | r :: q, h => by
    obtain ⟨x, hx⟩ := td_9 (h r (by simp))
    obtain ⟨l, hl⟩ := td_strs q fun s hs => h s (by simp [hs])
    exact ⟨x :: l, by simp [Go.Ev.strsD, hx, hl]⟩
theorem td_shs {m : Nat} (ih : ∀ row, TD Try.prog m 25 row → ∃ x : Sh, row = rowS x) : ∀ rows : List (List Go.Ev.D), (∀ r ∈ rows, TD Try.prog m 25 r) → ∃ l : List Sh, rows = rowsS l
  | [], _ => ⟨[], rfl⟩
  | r :: q, h => by
    obtain ⟨x, hx⟩ := ih r (h r (by simp))
    obtain ⟨l, hl⟩ := td_shs ih q fun s hs => h s (by simp [hs])
    exact ⟨x :: l, by simp [rowsS, hx, hl]⟩
theorem td_sh : ∀ (n : Nat) (row : List Go.Ev.D), TD Try.prog n 25 row → ∃ x : Sh, row = rowS x := by
  intro n
  induction n using Nat.strongRecOn with
  | ind n ih =>
    intro row h
    cases n with
    | zero => cases h
    | succ n =>
      simp only [TD, Try.underlying25, TDf] at h
      obtain ⟨a, _, rfl, h1, b, _, rfl, h2, c, _, rfl, h3, rfl⟩ := h
      obtain ⟨k, rfl⟩ := td_3 h1
      cases n with
      | zero => cases h2
      | succ n =>
        simp only [TD, Try.underlying22] at h2
        simp only [TD, Try.underlying23] at h3
        obtain ⟨r2, rfl, h2⟩ := h2
        obtain ⟨r3, rfl, h3⟩ := h3
        obtain ⟨ns, rfl⟩ := td_strs r2 h2
        obtain ⟨l, rfl⟩ := td_shs (ih n (by omega)) r3 h3
        exact ⟨.mk k ns l, by simp [rowS, show Try.prog.cellsOf 25 = 3 by kernel_rfl, show Try.prog.cellsOf 9 = 1 by kernel_rfl]⟩

theorem Try.own : ownKnob Try.prog.godebug = none := by kernel_rfl
theorem Try.laidOut : laidOutB Try.prog = true := by kernel_rfl

theorem law3_calls (W : World) (c0 c1 c2 : Array Value) (H : Type) (enc : TypeId × Value → H) (d0 d1 d2 : DataW H) (p0 p1 p2 : List MemPlace) (h0 : DataW.Trod enc Try.prog W 0 (fun _ => true) true 25 (.agg c0) d0 p0) (h1 : DataW.Trod enc Try.prog W 0 (fun _ => true) true 25 (.agg c1) d1 p1) (h2 : DataW.Trod enc Try.prog W 0 (fun _ => true) true 25 (.agg c2) d2 p2) :
    Calls Try.prog 3 #[.agg c0, .agg c1, .agg c2] W fun e W' => e = .returned (.bool true) ∧ Below W.heap.size W W' ∧ ∀ may, W.keptBut W' may := by
  obtain ⟨n0, r0, g0, k0⟩ := read_agg (ts := [25, 22, 23, 9, 3]) (by kernel_rfl) (by kernel_rfl) h0
  obtain ⟨n1, r1, g1, k1⟩ := read_agg (ts := [25, 22, 23, 9, 3]) (by kernel_rfl) (by kernel_rfl) h1
  obtain ⟨n2, r2, g2, k2⟩ := read_agg (ts := [25, 22, 23, 9, 3]) (by kernel_rfl) (by kernel_rfl) h2
  obtain ⟨x, rfl⟩ := td_sh n0 r0 g0
  obtain ⟨y, rfl⟩ := td_sh n1 r1 g1
  obtain ⟨z, rfl⟩ := td_sh n2 r2 g2
  refine (law3_ok x y z).calls (by kernel_rfl) ⟨rfl, fun i d hi => ?_⟩
  match i, hi with
  | 0, hi => simp at hi; subst hi; exact k0
  | 1, hi => simp at hi; subst hi; exact k1
  | 2, hi => simp at hi; subst hi; exact k2
  | i + 3, hi => simp at hi

set_option maxRecDepth 100000 in
theorem law3_lifted (os : Os) (started : os.Started) (H : Type) (enc : TypeId × Value → H) :
    ReturnsInHanded {} Try.checked os 3 .any (Rows.subtypeChainSpec.pre6 enc Try.prog Try.f3 [] false)
      (Rows.subtypeChainSpec.post enc Try.prog Try.f3 false true false false) := by
  refine returnsInHanded_of_change (C := Try.checked) Try.own started (by kernel_rfl) Try.func3
    (ChangeSpec.witness6 (enc := enc) (C := Try.checked) (os := os) false ⟨#[], #[.agg #[.int .i64 0, .slice none 0 0, .slice none 0 0], .agg #[.int .i64 0, .slice none 0 0, .slice none 0 0], .agg #[.int .i64 0, .slice none 0 0, .slice none 0 0]], []⟩ 8 (by kernel_rfl) (by kernel_rfl) (by kernel_rfl) (by kernel_rfl)) ?_
  intro W base args ds gs before hval0 hW _ _
  have hval : ∀ (j : Nat) t v, Try.f3.params[j]? = some t → args[j]? = some v → Value.okWide Try.prog W .any base t v := hval0
  have hW' := hW
  have hlt0 := hW.lt
  obtain ⟨p, q, hA0, hV0, rfl, hfz, hnd⟩ := hW
  have hA : DataW.TrodAll enc Try.prog W 0 (fun _ => true) true Try.f3.params.toList args.toList ds p := hA0
  have hV : DataW.TrodVars enc Try.prog W (fun _ => true) [] gs q := hV0
  rw [Try.params3] at hA hval
  obtain ⟨v0, v1, v2, d0, d1, d2, p0, p1, p2, rfl, rfl, rfl, h0, h1, h2⟩ := trodAll_three hA
  obtain ⟨rfl, rfl⟩ : gs = [] ∧ q = [] := by
    cases gs with
    | nil => exact ⟨rfl, hV⟩
    | cons g r => exact absurd hV (by intro h; cases h)
  have isA : ∀ (j : Nat) v, #[v0, v1, v2][j]? = some v → #[(25 : TypeId), 25, 25][j]? = some 25 → ∃ cs, v = .agg cs := fun j v hj ht => by
    have := hval j 25 v ht hj
    unfold Value.okWide at this
    rw [Try.underlying25] at this
    obtain ⟨cs, h, _⟩ := this
    exact ⟨cs, h⟩
  obtain ⟨c0, rfl⟩ := isA 0 v0 rfl rfl
  obtain ⟨c1, rfl⟩ := isA 1 v1 rfl rfl
  obtain ⟨c2, rfl⟩ := isA 2 v2 rfl rfl
  have hl0 : ∀ x ∈ p0, x.block < W.heap.size := fun x hx => hlt0 x (by simp [hx])
  have hl1 : ∀ x ∈ p1, x.block < W.heap.size := fun x hx => hlt0 x (by simp [hx])
  have hl2 : ∀ x ∈ p2, x.block < W.heap.size := fun x hx => hlt0 x (by simp [hx])
  have e1 : Rows.subtypeChainSpec.fn H ([d0, d1, d2] ++ []) = { results := [.lit (.bool true)], args := [d0, d1, d2] } := by simp [Rows.subtypeChainSpec]
  refine (law3_calls W c0 c1 c2 H enc d0 d1 d2 p0 p1 p2 h0 h1 h2).mono fun e W' ⟨he, hb, hw⟩ => ?_
  subst he
  refine ⟨_, rfl, _, _, _, [], p0 ++ (p1 ++ p2), [], hW', ?_, ?_, ?_, hw _, fun h => by cases h⟩
  · rw [e1]; exact trodAll_mk1 (shut_bool Try.underlying4 true)
  · rw [e1]; exact trodAll_mk3 (Below.trod Try.laidOut (by kernel_rfl) (of_decide_eq_true (by kernel_rfl)) h0 hb hl0) (Below.trod Try.laidOut (by kernel_rfl) (of_decide_eq_true (by kernel_rfl)) h1 hb hl1) (Below.trod Try.laidOut (by kernel_rfl) (of_decide_eq_true (by kernel_rfl)) h2 hb hl2)
  · rw [e1]; rfl

theorem subtypeChain_holds : Rows.SubtypeChainSaid :=
  OpenClaim.holds_of_wide 3 Try.f3 rfl rfl rfl rfl rfl rfl rfl ⟨rfl, rfl, rfl, rfl, rfl⟩ rfl rfl rfl rfl rfl (by kernel_rfl) Try.func3 (by kernel_rfl)
    (of_decide_eq_true (by kernel_rfl)) (by unfold Func.isWrapper; rw [if_neg (of_decide_eq_false (by kernel_rfl))]; exact ⟨rfl, rfl⟩)
    (fun os started H enc _ => law3_lifted os started H enc)
end Go.Proofs.Ythlebppdhipanaa
