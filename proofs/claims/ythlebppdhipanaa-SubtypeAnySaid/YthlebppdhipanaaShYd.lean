/-
  The law on anything in the place of a part: the walk.
-/
import Derived.Test.YthlebppdhipanaaShXc
import Derived.Test.YthlebppdhipanaaShWa
import Derived.Test.YthlebppdhipanaaShWbc
import Derived.Test.YthlebppdhipanaaShab
import Derived.Test.YthlebppdhipanaaSyT
import Derived.KernelRfl
import Derived.ChangeVars
import Derived.JoinedOf
import Derived.RowKitTokens
import Derived.LaidLaws
import Derived.MakeChecks
import Derived.Carry
import Derived.Test.YthlebppdhipanaaRows
set_option linter.all false
namespace Go.Proofs.Ythlebppdhipanaa
open Go.Ev
open Go.Aw (tiOf fieldsOf sB)

noncomputable def tb4 : Tb := tbC 10 (shT (fun _ => True) (tbool lightS)) (tbC 14 (sh2T (fun a b => limP a ∧ limP b) (fun a b => .lit (.bool (fitsG a b)))) (tbC 12 (tCo (.lit (.bool true))) (tbC 13 (sh2T (fun a b => limP a ∧ limP b ∧ sz a + sz b ≤ 2000) (fun a b => .lit (.bool (fitsG a b)))) (tbC 15 (loT (fun x n => limP x ∧ 0 ≤ n ∧ n ≤ 1000)) tb0))))
theorem tb4_ok : TbOk Try.prog tb4 := by
  refine tbC_ok (shT_ok (fun n _ => light_ok n) (tbool_bel _)) ?_
  refine tbC_ok (sh2T_ok (fun a b h => rfitsT_ok a b h.1 h.2) (by simp)) ?_
  refine tbC_ok (ctr_ok fun _ _ => ⟨lives_ok, by simp, by simp⟩) ?_
  refine tbC_ok (sh2T_ok (fun a b h => fitsT_ok a b h.1 h.2.1 h.2.2) (by simp)) ?_
  exact tbC_ok (shIT_ok (fun x n h => loose_ok x n h.1 h.2.1 h.2.2) (by simp)) (tb0_ok _)

theorem fitsG_lo {a b : Sh} (n : Int) (h : fitsG a b = true) : fitsG (looseS a n).1 b = true ∧ fitsG a (looseS b n).1 = true := by
  simp only [fitsG, Bool.and_eq_true] at h ⊢
  obtain ⟨ha, hb, hf⟩ := h
  have ra := good_right ha
  have rb := good_right hb
  exact ⟨⟨lo_good (lo_loose a n) ha, hb, (lo_fits _ a _ b (Nat.le_refl _) (lo_loose a n) ra rb).1 hf⟩, ha, lo_good (lo_loose b n) hb, (lo_fits _ b _ a (Nat.le_refl _) (lo_loose b n) rb ra).2 hf⟩

set_option maxHeartbeats 4000000 in
set_option maxRecDepth 20000 in
theorem law4_ok (a b : Sh) (k : Int) : FnO Try.prog 4 [.agg (rowS a), .agg (rowS b), .lit (.int .i64 k)] (.ret (.lit (.bool true))) := by
  have ht := tb4_ok
  unfold tb4 at ht
  refine fnO_wx ht fol Try.func4 rfl (by kernel_rfl) (by simp [Try.ntmps4]) (by kernel_rfl) fun I => ?_
  cases la : lightS a with
  | false =>
    simp -implicitDefEqProofs [Try.ntmps4, shT_eq, tCo_eq, tbool, la]
    exact .same _ (by simp)
  | true =>
  cases lb : lightS b with
  | false =>
    simp -implicitDefEqProofs [Try.ntmps4, shT_eq, tCo_eq, tbool, la, lb]
    exact .same _ (by simp)
  | true =>
  have pa := light_limP la
  have pb := light_limP lb
  have za := light_sz la
  have zb := light_sz lb
  cases hf : fitsG a b with
  | false =>
    simp -implicitDefEqProofs [Try.ntmps4, shT_eq, sh2T_eq, tCo_eq, tbool, la, lb, pa, pb, hf]
    exact .same _ (by simp)
  | true =>
    have hu0 : 0 ≤ IntKind.u64.wrap k := by
      simp only [IntKind.wrap]
      have : IntKind.u64.signed = false := rfl
      simp only [this]
      exact Int.emod_nonneg _ (by decide)
    obtain ⟨N, hN⟩ : ∃ N, N = (IntKind.u64.wrap k) % 40 := ⟨_, rfl⟩
    have hN0 : 0 ≤ N := by omega
    have hN1 : N ≤ 1000 := by omega
    have e1 : (IntKind.u64.wrap k).tmod 40 = N := by rw [Int.tmod_eq_emod_of_nonneg hu0]; exact hN.symm
    have e2 : IntKind.i64.wrap N = N := wrap64 (by omega) (by omega)
    obtain ⟨g1, g2⟩ := fitsG_lo N hf
    have q1 := lo_limP (lo_loose a N) pa
    have q2 := lo_limP (lo_loose b N) pb
    have s1 := lo_sz (lo_loose a N)
    have s2 := lo_sz (lo_loose b N)
    have z1 : sz (looseS a N).1 + sz b ≤ 2000 := by omega
    have z2 : sz a + sz (looseS b N).1 ≤ 2000 := by omega
    simp -implicitDefEqProofs (maxSteps := 1000000) [Try.ntmps4, shT_eq, sh2T_eq, loT_eq, tCo_eq, tbool, la, lb, pa, pb, hf, e1, e2, hN0, hN1, q1, q2, z1, z2, g1, g2]
    exact .same _ (by simp)
end Go.Proofs.Ythlebppdhipanaa

/-
  What is handed over, as shapes.
-/
namespace Go.Proofs.Ythlebppdhipanaa
open Go.ChangeShapes Go.WideShapes Go.RowKit
open Go.Ev (TD TDf plainT read_agg R argsOk FnO)

theorem td_3 {n : Nat} {row : List Go.Ev.D} (h : TD Try.prog n 3 row) : ∃ i, row = [.lit (.int .i64 i)] := by
  cases n with
  | zero => cases h
  | succ n =>
    simp only [TD, Try.underlying3] at h
    obtain ⟨i, _, h⟩ := h
    exact ⟨i, h⟩
theorem td_9 {n : Nat} {row : List Go.Ev.D} (h : TD Try.prog n 9 row) : ∃ s, row = [.lit (.string s)] := by
  cases n with
  | zero => cases h
  | succ n =>
    simp only [TD, Try.underlying9] at h
    obtain ⟨i, _, h⟩ := h
    exact ⟨i, h⟩
theorem td_strs {m : Nat} : ∀ rows : List (List Go.Ev.D), (∀ r ∈ rows, TD Try.prog m 9 r) → ∃ l : List ByteArray, rows = Go.Ev.strsD l
  | [], _ => ⟨[], rfl⟩
  | r :: q, h => by
    obtain ⟨x, hx⟩ := td_9 (h r (by simp))
    obtain ⟨l, hl⟩ := td_strs q fun s hs => h s (by simp [hs])
    exact ⟨x :: l, by simp [Go.Ev.strsD, hx, hl]⟩
theorem td_shs {m : Nat} (ih : ∀ row, TD Try.prog m 25 row → ∃ x : Sh, row = rowS x) : ∀ rows : List (List Go.Ev.D), (∀ r ∈ rows, TD Try.prog m 25 r) → ∃ l : List Sh, rows = rowsS l
  | [], _ => ⟨[], rfl⟩
  | r :: q, h => by
    obtain ⟨x, hx⟩ := ih r (h r (by simp))
    obtain ⟨l, hl⟩ := td_shs ih q fun s hs => h s (by simp [hs])
    exact ⟨x :: l, by simp [rowsS, hx, hl]⟩
theorem td_sh : ∀ (n : Nat) (row : List Go.Ev.D), TD Try.prog n 25 row → ∃ x : Sh, row = rowS x := by
  intro n
  induction n using Nat.strongRecOn with
  | ind n ih =>
    intro row h
    cases n with
    | zero => cases h
    | succ n =>
      simp only [TD, Try.underlying25, TDf] at h
      obtain ⟨a, _, rfl, h1, b, _, rfl, h2, c, _, rfl, h3, rfl⟩ := h
      obtain ⟨k, rfl⟩ := td_3 h1
      cases n with
      | zero => cases h2
      | succ n =>
        simp only [TD, Try.underlying22] at h2
        simp only [TD, Try.underlying23] at h3
        obtain ⟨r2, rfl, h2⟩ := h2
        obtain ⟨r3, rfl, h3⟩ := h3
        obtain ⟨ns, rfl⟩ := td_strs r2 h2
        obtain ⟨l, rfl⟩ := td_shs (ih n (by omega)) r3 h3
        exact ⟨.mk k ns l, by simp [rowS, show Try.prog.cellsOf 25 = 3 by kernel_rfl, show Try.prog.cellsOf 9 = 1 by kernel_rfl]⟩

theorem Try.own : ownKnob Try.prog.godebug = none := by kernel_rfl
theorem Try.laidOut : laidOutB Try.prog = true := by kernel_rfl

end Go.Proofs.Ythlebppdhipanaa

/-
  The law SubtypeAny returns true at every input, and what was handed over reads behind the call as it read ahead of it. There are no conditions.
-/
namespace Go.Proofs.Ythlebppdhipanaa
open Go.ChangeShapes Go.WideShapes Go.RowKit
open Go.Ev (TD TDf plainT read_agg R argsOk FnO)

theorem law4_calls (W : World) (c0 c1 : Array Value) (k : Int) (H : Type) (enc : TypeId × Value → H) (d0 d1 : DataW H) (p0 p1 : List MemPlace) (h0 : DataW.Trod enc Try.prog W 0 (fun _ => true) true 25 (.agg c0) d0 p0) (h1 : DataW.Trod enc Try.prog W 0 (fun _ => true) true 25 (.agg c1) d1 p1) :
    Calls Try.prog 4 #[.agg c0, .agg c1, .int .i64 k] W fun e W' => e = .returned (.bool true) ∧ Below W.heap.size W W' ∧ ∀ may, W.keptBut W' may := by
  obtain ⟨n0, r0, g0, k0⟩ := read_agg (ts := [25, 22, 23, 9, 3]) (by kernel_rfl) (by kernel_rfl) h0
  obtain ⟨n1, r1, g1, k1⟩ := read_agg (ts := [25, 22, 23, 9, 3]) (by kernel_rfl) (by kernel_rfl) h1
  obtain ⟨x, rfl⟩ := td_sh n0 r0 g0
  obtain ⟨y, rfl⟩ := td_sh n1 r1 g1
  refine (law4_ok x y k).calls (by kernel_rfl) ⟨rfl, fun i d hi => ?_⟩
  match i, hi with
  | 0, hi => simp at hi; subst hi; exact k0
  | 1, hi => simp at hi; subst hi; exact k1
  | 2, hi => simp at hi; subst hi; exact .lit _ trivial
  | i + 3, hi => simp at hi

set_option maxRecDepth 100000 in
theorem law4_lifted (os : Os) (started : os.Started) (H : Type) (enc : TypeId × Value → H) :
    ReturnsInHanded {} Try.checked os 4 .any (Rows.subtypeAnySpec.pre6 enc Try.prog Try.f4 [] false)
      (Rows.subtypeAnySpec.post enc Try.prog Try.f4 false true false false) := by
  refine returnsInHanded_of_change (C := Try.checked) Try.own started (by kernel_rfl) Try.func4
    (ChangeSpec.witness6 (enc := enc) (C := Try.checked) (os := os) false ⟨#[], #[.agg #[.int .i64 0, .slice none 0 0, .slice none 0 0], .agg #[.int .i64 0, .slice none 0 0, .slice none 0 0], .int .i64 0], []⟩ 8 (by kernel_rfl) (by kernel_rfl) (by kernel_rfl) (by kernel_rfl)) ?_
  intro W base args ds gs before hval0 hW _ _
  have hval : ∀ (j : Nat) t v, Try.f4.params[j]? = some t → args[j]? = some v → Value.okWide Try.prog W .any base t v := hval0
  have hW' := hW
  have hlt0 := hW.lt
  obtain ⟨p, q, hA0, hV0, rfl, hfz, hnd⟩ := hW
  have hA : DataW.TrodAll enc Try.prog W 0 (fun _ => true) true Try.f4.params.toList args.toList ds p := hA0
  have hV : DataW.TrodVars enc Try.prog W (fun _ => true) [] gs q := hV0
  rw [Try.params4] at hA hval
  obtain ⟨v0, v1, v2, d0, d1, d2, p0, p1, p2, rfl, rfl, rfl, h0, h1, h2⟩ := trodAll_three hA
  obtain ⟨m, rfl, rfl, rfl, hwn⟩ := open_int Try.underlying3 (hval 2 3 v2 rfl rfl) h2
  obtain ⟨rfl, rfl⟩ : gs = [] ∧ q = [] := by
    cases gs with
    | nil => exact ⟨rfl, hV⟩
    | cons g r => exact absurd hV (by intro h; cases h)
  obtain ⟨c0, rfl⟩ : ∃ cs, v0 = .agg cs := by
    have := hval 0 25 v0 rfl rfl
    unfold Value.okWide at this
    rw [Try.underlying25] at this
    obtain ⟨cs, h, _⟩ := this
    exact ⟨cs, h⟩
  obtain ⟨c1, rfl⟩ : ∃ cs, v1 = .agg cs := by
    have := hval 1 25 v1 rfl rfl
    unfold Value.okWide at this
    rw [Try.underlying25] at this
    obtain ⟨cs, h, _⟩ := this
    exact ⟨cs, h⟩
  have hl0 : ∀ x ∈ p0, x.block < W.heap.size := fun x hx => hlt0 x (by simp [hx])
  have hl1 : ∀ x ∈ p1, x.block < W.heap.size := fun x hx => hlt0 x (by simp [hx])
  have e1 : Rows.subtypeAnySpec.fn H ([d0, d1, .lit (.int .i64 m)] ++ []) = { results := [.lit (.bool true)], args := [d0, d1, .lit (.int .i64 m)] } := by simp [Rows.subtypeAnySpec]
  refine (law4_calls W c0 c1 m H enc d0 d1 p0 p1 h0 h1).mono fun e W' ⟨he, hb, hw⟩ => ?_
  subst he
  refine ⟨_, rfl, _, _, _, [], p0 ++ (p1 ++ []), [], hW', ?_, ?_, ?_, hw _, fun h => by cases h⟩
  · rw [e1]; exact trodAll_mk1 (shut_bool Try.underlying4 true)
  · rw [e1]; exact trodAll_mk3 (Below.trod Try.laidOut (by kernel_rfl) (of_decide_eq_true (by kernel_rfl)) h0 hb hl0) (Below.trod Try.laidOut (by kernel_rfl) (of_decide_eq_true (by kernel_rfl)) h1 hb hl1) (shut_int Try.underlying3 hwn)
  · rw [e1]; rfl

theorem subtypeAny_holds : Rows.SubtypeAnySaid :=
  OpenClaim.holds_of_wide 4 Try.f4 rfl rfl rfl rfl rfl rfl rfl ⟨rfl, rfl, rfl, rfl, rfl⟩ rfl rfl rfl rfl rfl (by kernel_rfl) Try.func4 (by kernel_rfl)
    (of_decide_eq_true (by kernel_rfl)) (by unfold Func.isWrapper; rw [if_neg (of_decide_eq_false (by kernel_rfl))]; exact ⟨rfl, rfl⟩)
    (fun os started H enc _ => law4_lifted os started H enc)
end Go.Proofs.Ythlebppdhipanaa
