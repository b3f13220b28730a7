/-
  ReparseNobody: its row.
-/
import Derived.Test.YtgpmcnakeeahbaaEvP
import Derived.RecoverIn
import Derived.Test.YtgpmcnakeeahbaaRows
import Derived.KernelRfl
import Derived.ChangeVars
import Derived.JoinedOf
import Derived.RowKitTokens
import Derived.LaidLaws
import Derived.MakeChecks
namespace Go.Proofs.Ytgpmcnakeeahbaa
open Go.ChangeShapes Go.WideShapes Go.RowKit
open Go.Aw (WF enters)
open Go.Ev (exT_ok exT XK ExtOk eng drawE calls_true Quiet)

theorem quiet33 (vs : Array Value) (w : World) (hvs : vs.size = 2) : Quiet Try.prog 33 vs w := by
  obtain ⟨v0, v1, rfl⟩ : ∃ v0 v1, vs = #[v0, v1] := by
    refine ⟨vs[0], vs[1], ?_⟩
    apply Array.ext
    · simpa using hvs
    · intro i h1 h2
      match i, h2 with
      | 0, _ => rfl
      | 1, _ => rfl
  unfold Quiet
  refine callsDIn_of_wpSIn Try.func33 rfl trivial (fun c₀ cs hu => ?_)
  have hrec : recoverD (c₀ :: cs) = none := by simp [recoverD, hu]
  have tm : (#[v0, v1] ++ Array.replicate (Try.f33.ntmps - (#[v0, v1] : Array Value).size) undef : Array Value) = #[v0, v1, undef, undef, undef, undef, undef, undef, undef, undef, undef, undef, undef, undef, undef, undef, undef, undef, undef] := by kernel_rfl
  rw [tm]
  refine wpSIn_seq (wpSIn_region ?_)
  show wpOpsSIn _ _ _ _ _ [0, 1] _ _ _
  simp only [wpOpsSIn]
  refine ⟨fun _ _ => trivial, ?_⟩
  rw [if_pos (by kernel_rfl)]
  rw [show (execOp _ _).run Try.prog w = .ok .recover w by kernel_rfl]
  simp only [hrec]
  refine ⟨fun _ _ => trivial, ?_⟩
  rw [if_pos (by kernel_rfl)]
  rw [show (execOp _ _).run Try.prog w = .ok (.value .nilIface) w by kernel_rfl]
  simp only [Exit.thenS]
  refine wpSIn_seq (wpSIn_region ?_)
  show wpOpsSIn _ _ _ _ _ [0, 1] _ _ _
  simp only [wpOpsSIn]
  refine ⟨fun _ _ => trivial, ?_⟩
  rw [if_pos (by kernel_rfl)]
  rw [show (execOp _ _).run Try.prog w = .ok (.value .nilIface) w by kernel_rfl]
  simp only
  refine ⟨fun _ _ => trivial, ?_⟩
  rw [if_pos (by kernel_rfl)]
  rw [show (execOp _ _).run Try.prog w = .ok (.value (.bool false)) w by kernel_rfl]
  simp only [Exit.thenS]
  refine wpSIn_cond (t := false) (by kernel_rfl) (wpSIn_of_wpIn rfl (wpIn_skip ?_))
  exact ⟨rfl, c₀.mode, rfl, .tuple #[], by kernel_rfl, ⟨_, rfl⟩, hu, rfl⟩

def exL : List (FuncId × XK) := [(62, .indexByte), (39, .noEscape), (33, .quiet 2)]

theorem ex_ok : ∀ p ∈ exL, ExtOk Try.prog p.1 p.2 := by
  intro p hp
  simp only [exL, List.mem_cons, List.not_mem_nil, or_false] at hp
  rcases hp with rfl | rfl | rfl
  · exact ⟨Try.f62, Try.func62, by kernel_rfl, by kernel_rfl, by kernel_rfl, by kernel_rfl⟩
  · exact ⟨Try.f39, Try.func39, by kernel_rfl, by kernel_rfl, by kernel_rfl, by kernel_rfl⟩
  · exact ⟨by kernel_rfl, quiet33⟩

theorem law_calls (n : Int) (W : World) : Calls Try.prog 3 #[.int .i64 n] W fun e W' => e = .returned (.bool true) ∧ ∀ may, W.keptBut W' may :=
  calls_true (N := 1000) (n := 80) (args := [.one]) (exT_ok exL ex_ok) (by kernel_rfl) (by kernel_rfl) ⟨rfl, fun i d h => by
    cases i with
    | zero => simp at h; subst h; exact .one _ rfl
    | succ i => simp at h⟩

theorem Try.own : ownKnob Try.prog.godebug = none := by kernel_rfl

set_option maxRecDepth 100000 in
theorem law_lifted (os : Os) (started : os.Started) (H : Type) (enc : TypeId × Value → H) :
    ReturnsInHanded {} Try.checked os 3 .any (Rows.reparseNobodySpec.pre6 enc Try.prog Try.f3 [] false)
      (Rows.reparseNobodySpec.post enc Try.prog Try.f3 false true false false) := by
  refine returnsInHanded_of_change (C := Try.checked) Try.own started (by kernel_rfl) Try.func3
    (ChangeSpec.witness6 (enc := enc) (C := Try.checked) (os := os) false ⟨#[], #[.int .i64 0], []⟩ 8 (by kernel_rfl) (by kernel_rfl) (by kernel_rfl) (by kernel_rfl)) ?_
  intro W base args ds gs before hval0 hW _ _
  have hval : ∀ (j : Nat) t v, Try.f3.params[j]? = some t → args[j]? = some v → Value.okWide Try.prog W .any base t v := hval0
  have hW' := hW
  obtain ⟨p, q, hA0, hV0, rfl, hfz, hnd⟩ := hW
  have hA : DataW.TrodAll enc Try.prog W 0 (fun _ => true) true Try.f3.params.toList args.toList ds p := hA0
  have hV : DataW.TrodVars enc Try.prog W (fun _ => true) [] gs q := hV0
  rw [Try.params3] at hA hval
  obtain ⟨v0, d0, rfl, rfl, h0⟩ := trodAll_one hA
  obtain ⟨n, rfl, rfl, rfl, hwn⟩ := open_int Try.underlying3 (hval 0 3 v0 rfl rfl) h0
  obtain ⟨rfl, rfl⟩ : gs = [] ∧ q = [] := by
    cases gs with
    | nil => exact ⟨rfl, hV⟩
    | cons g r => exact absurd hV (by intro h; cases h)
  have e1 : Rows.reparseNobodySpec.fn H ([.lit (.int .i64 n)] ++ []) = { results := [.lit (.bool true)], args := [.lit (.int .i64 n)] } := by simp [Rows.reparseNobodySpec]
  refine (law_calls n W).mono fun e W' ⟨he, hw⟩ => ?_
  subst he
  refine ⟨_, rfl, _, _, _, [], [], [], hW', ?_, ?_, ?_, hw _, fun h => by cases h⟩
  · rw [e1]; exact trodAll_mk1 (shut_bool Try.underlying4 true)
  · rw [e1]; exact trodAll_mk1 (shut_int Try.underlying3 hwn)
  · rw [e1]; rfl

theorem reparseNobody_holds : Rows.ReparseNobodySaid :=
  OpenClaim.holds_of_wide 3 Try.f3 rfl rfl rfl rfl rfl rfl rfl ⟨rfl, rfl, rfl, rfl, rfl⟩ rfl rfl rfl rfl rfl (by kernel_rfl) Try.func3 (by kernel_rfl)
    (of_decide_eq_true (by kernel_rfl)) (by unfold Func.isWrapper; rw [if_neg (of_decide_eq_false (by kernel_rfl))]; exact ⟨rfl, rfl⟩)
    (fun os started H enc _ => law_lifted os started H enc)
#print axioms reparseNobody_holds
end Go.Proofs.Ytgpmcnakeeahbaa
