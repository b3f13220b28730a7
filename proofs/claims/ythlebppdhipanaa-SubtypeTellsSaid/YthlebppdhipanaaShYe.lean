/-
  The law on all that is told of two shapes: the walk.
-/
import Derived.Test.YthlebppdhipanaaShWgk
import Derived.Test.YthlebppdhipanaaShab
import Derived.Test.YthlebppdhipanaaSyT
import Derived.KernelRfl
import Derived.ChangeVars
import Derived.JoinedOf
import Derived.RowKitTokens
import Derived.LaidLaws
import Derived.MakeChecks
import Derived.Carry
import Derived.Test.YthlebppdhipanaaRows
set_option linter.all false
namespace Go.Proofs.Ythlebppdhipanaa
open Go.Ev
open Go.Aw (tiOf fieldsOf sB)

noncomputable def tb5 : Tb := tbC 10 (shT (fun _ => True) (tbool lightS)) (tbC 14 (sh2T (fun a b => limP a ∧ limP b) (fun a b => .lit (.bool (fitsG a b)))) (tbC 12 (tCo (.lit (.bool true))) (tbC 13 (sh2T (fun a b => limP a ∧ limP b ∧ sz a + sz b ≤ 2000) (fun a b => .lit (.bool (fitsG a b)))) (tbC 16 (sh2T (fun a b => limP a ∧ limP b ∧ sz a + sz b ≤ 2000) (fun a b => .lit (.bool (fitsG a b && fitsG b a)))) (tbC 17 (sh2T (fun a b => limP a ∧ limP b ∧ sz a + sz b ≤ 2000) (fun a b => .lit (.string (bA (whyG a b))))) (tbC 18 (sh2T (fun a b => limP a ∧ limP b ∧ sz a + sz b ≤ 2000) (fun a b => .lit (.string (bA (whyG a b))))) (tbC 19 (shT limP (tbool goodS)) tb0)))))))
theorem tb5_ok : TbOk Try.prog tb5 := by
  refine tbC_ok (shT_ok (fun n _ => light_ok n) (tbool_bel _)) ?_
  refine tbC_ok (sh2T_ok (fun a b h => rfitsT_ok a b h.1 h.2) (by simp)) ?_
  refine tbC_ok (ctr_ok fun _ _ => ⟨lives_ok, by simp, by simp⟩) ?_
  refine tbC_ok (sh2T_ok (fun a b h => fitsT_ok a b h.1 h.2.1 h.2.2) (by simp)) ?_
  refine tbC_ok (sh2T_ok (fun a b h => alikeT_ok a b h.1 h.2.1 h.2.2) (by simp)) ?_
  refine tbC_ok (sh2T_ok (fun a b h => whyT_ok a b h.1 h.2.1 h.2.2) (by simp)) ?_
  refine tbC_ok (sh2T_ok (fun a b h => rwhyT_ok a b h.1 h.2.1 h.2.2) (by simp)) ?_
  exact tbC_ok (shT_ok rgood_ok (tbool_bel _)) (tb0_ok _)

theorem bA_nil : bA [] = (⟨#[]⟩ : ByteArray) := rfl
set_option maxHeartbeats 4000000 in
set_option maxRecDepth 20000 in
theorem law5_ok (a b : Sh) : FnO Try.prog 5 [.agg (rowS a), .agg (rowS b)] (.ret (.lit (.bool true))) := by
  have ht := tb5_ok
  unfold tb5 at ht
  refine fnO_wx ht fol Try.func5 rfl (by kernel_rfl) (by simp [Try.ntmps5]) (by kernel_rfl) fun I => ?_
  cases la : lightS a with
  | false =>
    simp -implicitDefEqProofs [Try.ntmps5, shT_eq, tCo_eq, tbool, la]
    exact .same _ (by simp)
  | true =>
  cases lb : lightS b with
  | false =>
    simp -implicitDefEqProofs [Try.ntmps5, shT_eq, tCo_eq, tbool, la, lb]
    exact .same _ (by simp)
  | true =>
  have pa := light_limP la
  have pb := light_limP lb
  have za := light_sz la
  have zb := light_sz lb
  have z1 : sz a + sz b ≤ 2000 := by omega
  have z2 : sz b + sz a ≤ 2000 := by omega
  have hi := whyG_iff a b
  cases hf : fitsG a b with
  | false =>
    cases ga : goodS a with
    | false =>
      have hw : whyG a b = [] := hi.2 (.inr (.inl ga))
      simp -implicitDefEqProofs (maxSteps := 1000000) [Try.ntmps5, shT_eq, sh2T_eq, tCo_eq, tbool, la, lb, pa, pb, z1, z2, hf, ga, hw, bA_nil]
      exact .same _ (by simp)
    | true =>
    cases gb : goodS b with
    | false =>
      have hw : whyG a b = [] := hi.2 (.inr (.inr gb))
      simp -implicitDefEqProofs (maxSteps := 1000000) [Try.ntmps5, shT_eq, sh2T_eq, tCo_eq, tbool, la, lb, pa, pb, z1, z2, hf, ga, gb, hw, bA_nil]
      exact .same _ (by simp)
    | true =>
      have hw : whyG a b ≠ [] := fun q => by
        rcases hi.1 q with q | q | q
        · rw [hf] at q; cases q
        · rw [ga] at q; cases q
        · rw [gb] at q; cases q
      have hwb : ¬ (bA (whyG a b) = (⟨#[]⟩ : ByteArray)) := by
        intro q
        apply hw
        have := congrArg sB q
        simpa using this
      simp -implicitDefEqProofs (maxSteps := 1000000) [Try.ntmps5, shT_eq, sh2T_eq, tCo_eq, tbool, la, lb, pa, pb, z1, z2, hf, ga, gb, hwb]
      exact .same _ (by simp)
  | true =>
    have hw : whyG a b = [] := hi.2 (.inl hf)
    cases hg : fitsG b a with
    | false =>
      simp -implicitDefEqProofs (maxSteps := 1000000) [Try.ntmps5, shT_eq, sh2T_eq, tCo_eq, tbool, la, lb, pa, pb, z1, z2, hf, hg, hw, bA_nil]
      exact .same _ (by simp)
    | true =>
      simp -implicitDefEqProofs (maxSteps := 1000000) [Try.ntmps5, shT_eq, sh2T_eq, tCo_eq, tbool, la, lb, pa, pb, z1, z2, hf, hg, hw, bA_nil]
      exact .same _ (by simp)
end Go.Proofs.Ythlebppdhipanaa

/-
  What is handed over, as shapes.
-/
namespace Go.Proofs.Ythlebppdhipanaa
open Go.ChangeShapes Go.WideShapes Go.RowKit
open Go.Ev (TD TDf plainT read_agg R argsOk FnO)

theorem td_3 {n : Nat} {row : List Go.Ev.D} (h : TD Try.prog n 3 row) : ∃ i, row = [.lit (.int .i64 i)] := by
  cases n with
  | zero => cases h
  | succ n =>
    simp only [TD, Try.underlying3] at h
    obtain ⟨i, _, h⟩ := h
    exact ⟨i, h⟩
theorem td_9 {n : Nat} {row : List Go.Ev.D} (h : TD Try.prog n 9 row) : ∃ s, row = [.lit (.string s)] := by
  cases n with
  | zero => cases h
  | succ n =>
    simp only [TD, Try.underlying9] at h
    obtain ⟨i, _, h⟩ := h
    exact ⟨i, h⟩
theorem td_strs {m : Nat} : ∀ rows : List (List Go.Ev.D), (∀ r ∈ rows, TD Try.prog m 9 r) → ∃ l : List ByteArray, rows = Go.Ev.strsD l
  | [], _ => ⟨[], rfl⟩
  | r :: q, h => by
    obtain ⟨x, hx⟩ := td_9 (h r (by simp))
    obtain ⟨l, hl⟩ := td_strs q fun s hs => h s (by simp [hs])
    exact ⟨x :: l, by simp [Go.Ev.strsD, hx, hl]⟩
theorem td_shs {m : Nat} (ih : ∀ row, TD Try.prog m 25 row → ∃ x : Sh, row = rowS x) : ∀ rows : List (List Go.Ev.D), (∀ r ∈ rows, TD Try.prog m 25 r) → ∃ l : List Sh, rows = rowsS l
  | [], _ => ⟨[], rfl⟩
  | r :: q, h => by
    obtain ⟨x, hx⟩ := ih r (h r (by simp))
    obtain ⟨l, hl⟩ := td_shs ih q fun s hs => h s (by simp [hs])
    exact ⟨x :: l, by simp [rowsS, hx, hl]⟩
theorem td_sh : ∀ (n : Nat) (row : List Go.Ev.D), TD Try.prog n 25 row → ∃ x : Sh, row = rowS x := by
  intro n
  induction n using Nat.strongRecOn with
  | ind n ih =>
    intro row h
    cases n with
    | zero => cases h
    | succ n =>
      simp only [TD, Try.underlying25, TDf] at h
      obtain ⟨a, _, rfl, h1, b, _, rfl, h2, c, _, rfl, h3, rfl⟩ := h
      obtain ⟨k, rfl⟩ := td_3 h1
      cases n with
      | zero => cases h2
      | succ n =>
        simp only [TD, Try.underlying22] at h2
        simp only [TD, Try.underlying23] at h3
        obtain ⟨r2, rfl, h2⟩ := h2
        obtain ⟨r3, rfl, h3⟩ := h3
        obtain ⟨ns, rfl⟩ := td_strs r2 h2
        obtain ⟨l, rfl⟩ := td_shs (ih n (by omega)) r3 h3
        exact ⟨.mk k ns l, by simp [rowS, show Try.prog.cellsOf 25 = 3 by kernel_rfl, show Try.prog.cellsOf 9 = 1 by kernel_rfl]⟩

theorem Try.own : ownKnob Try.prog.godebug = none := by kernel_rfl
theorem Try.laidOut : laidOutB Try.prog = true := by kernel_rfl

end Go.Proofs.Ythlebppdhipanaa

/-
  The law SubtypeTells returns true at every input, and what was handed over reads behind the call as it read ahead of it. There are no conditions.
-/
namespace Go.Proofs.Ythlebppdhipanaa
open Go.ChangeShapes Go.WideShapes Go.RowKit
open Go.Ev (TD TDf plainT read_agg R argsOk FnO)

theorem law5_calls (W : World) (c0 c1 : Array Value) (H : Type) (enc : TypeId × Value → H) (d0 d1 : DataW H) (p0 p1 : List MemPlace) (h0 : DataW.Trod enc Try.prog W 0 (fun _ => true) true 25 (.agg c0) d0 p0) (h1 : DataW.Trod enc Try.prog W 0 (fun _ => true) true 25 (.agg c1) d1 p1) :
    Calls Try.prog 5 #[.agg c0, .agg c1] W fun e W' => e = .returned (.bool true) ∧ Below W.heap.size W W' ∧ ∀ may, W.keptBut W' may := by
  obtain ⟨n0, r0, g0, k0⟩ := read_agg (ts := [25, 22, 23, 9, 3]) (by kernel_rfl) (by kernel_rfl) h0
  obtain ⟨n1, r1, g1, k1⟩ := read_agg (ts := [25, 22, 23, 9, 3]) (by kernel_rfl) (by kernel_rfl) h1
  obtain ⟨x, rfl⟩ := td_sh n0 r0 g0
  obtain ⟨y, rfl⟩ := td_sh n1 r1 g1
  refine (law5_ok x y).calls (by kernel_rfl) ⟨rfl, fun i d hi => ?_⟩
  match i, hi with
  | 0, hi => simp at hi; subst hi; exact k0
  | 1, hi => simp at hi; subst hi; exact k1
  | i + 2, hi => simp at hi

set_option maxRecDepth 100000 in
theorem law5_lifted (os : Os) (started : os.Started) (H : Type) (enc : TypeId × Value → H) :
    ReturnsInHanded {} Try.checked os 5 .any (Rows.subtypeTellsSpec.pre6 enc Try.prog Try.f5 [] false)
      (Rows.subtypeTellsSpec.post enc Try.prog Try.f5 false true false false) := by
  refine returnsInHanded_of_change (C := Try.checked) Try.own started (by kernel_rfl) Try.func5
    (ChangeSpec.witness6 (enc := enc) (C := Try.checked) (os := os) false ⟨#[], #[.agg #[.int .i64 0, .slice none 0 0, .slice none 0 0], .agg #[.int .i64 0, .slice none 0 0, .slice none 0 0]], []⟩ 8 (by kernel_rfl) (by kernel_rfl) (by kernel_rfl) (by kernel_rfl)) ?_
  intro W base args ds gs before hval0 hW _ _
  have hval : ∀ (j : Nat) t v, Try.f5.params[j]? = some t → args[j]? = some v → Value.okWide Try.prog W .any base t v := hval0
  have hW' := hW
  have hlt0 := hW.lt
  obtain ⟨p, q, hA0, hV0, rfl, hfz, hnd⟩ := hW
  have hA : DataW.TrodAll enc Try.prog W 0 (fun _ => true) true Try.f5.params.toList args.toList ds p := hA0
  have hV : DataW.TrodVars enc Try.prog W (fun _ => true) [] gs q := hV0
  rw [Try.params5] at hA hval
  obtain ⟨v0, v1, d0, d1, p0, p1, rfl, rfl, rfl, h0, h1⟩ := trodAll_two hA
  obtain ⟨rfl, rfl⟩ : gs = [] ∧ q = [] := by
    cases gs with
    | nil => exact ⟨rfl, hV⟩
    | cons g r => exact absurd hV (by intro h; cases h)
  obtain ⟨c0, rfl⟩ : ∃ cs, v0 = .agg cs := by
    have := hval 0 25 v0 rfl rfl
    unfold Value.okWide at this
    rw [Try.underlying25] at this
    obtain ⟨cs, h, _⟩ := this
    exact ⟨cs, h⟩
  obtain ⟨c1, rfl⟩ : ∃ cs, v1 = .agg cs := by
    have := hval 1 25 v1 rfl rfl
    unfold Value.okWide at this
    rw [Try.underlying25] at this
    obtain ⟨cs, h, _⟩ := this
    exact ⟨cs, h⟩
  have hl0 : ∀ x ∈ p0, x.block < W.heap.size := fun x hx => hlt0 x (by simp [hx])
  have hl1 : ∀ x ∈ p1, x.block < W.heap.size := fun x hx => hlt0 x (by simp [hx])
  have e1 : Rows.subtypeTellsSpec.fn H ([d0, d1] ++ []) = { results := [.lit (.bool true)], args := [d0, d1] } := by simp [Rows.subtypeTellsSpec]
  refine (law5_calls W c0 c1 H enc d0 d1 p0 p1 h0 h1).mono fun e W' ⟨he, hb, hw⟩ => ?_
  subst he
  refine ⟨_, rfl, _, _, _, [], p0 ++ p1, [], hW', ?_, ?_, ?_, hw _, fun h => by cases h⟩
  · rw [e1]; exact trodAll_mk1 (shut_bool Try.underlying4 true)
  · rw [e1]; exact trodAll_mk2 (Below.trod Try.laidOut (by kernel_rfl) (of_decide_eq_true (by kernel_rfl)) h0 hb hl0) (Below.trod Try.laidOut (by kernel_rfl) (of_decide_eq_true (by kernel_rfl)) h1 hb hl1)
  · rw [e1]; rfl

theorem subtypeTells_holds : Rows.SubtypeTellsSaid :=
  OpenClaim.holds_of_wide 5 Try.f5 rfl rfl rfl rfl rfl rfl rfl ⟨rfl, rfl, rfl, rfl, rfl⟩ rfl rfl rfl rfl rfl (by kernel_rfl) Try.func5 (by kernel_rfl)
    (of_decide_eq_true (by kernel_rfl)) (by unfold Func.isWrapper; rw [if_neg (of_decide_eq_false (by kernel_rfl))]; exact ⟨rfl, rfl⟩)
    (fun os started H enc _ => law5_lifted os started H enc)
end Go.Proofs.Ythlebppdhipanaa
