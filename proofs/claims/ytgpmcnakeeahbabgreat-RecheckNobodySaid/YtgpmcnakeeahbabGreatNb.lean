/-
  RecheckNobody: its row.
-/
import Derived.Test.YtgpmcnakeeahbabGreatEvQ
import Derived.Test.YtgpmcnakeeahbabGreatQb
import Derived.Test.YtgpmcnakeeahbabGreatQc
import Derived.Test.YtgpmcnakeeahbabGreatQd
import Derived.Test.YtgpmcnakeeahbabGreatQe
import Derived.Test.YtgpmcnakeeahbabGreatQf
import Derived.Test.YtgpmcnakeeahbabGreatQg
import Derived.Test.YtgpmcnakeeahbabGreatQh
import Derived.Test.YtgpmcnakeeahbabGreatQi
import Derived.Test.YtgpmcnakeeahbabGreatQj
import Derived.Test.YtgpmcnakeeahbabGreatQk
import Derived.Test.YtgpmcnakeeahbabGreatQl
import Derived.Test.YtgpmcnakeeahbabGreatQm
import Derived.Test.YtgpmcnakeeahbabGreatQn
import Derived.RecoverIn
import Derived.Test.YtgpmcnakeeahbabGreatRows
import Derived.KernelRfl
import Derived.ChangeVars
import Derived.JoinedOf
import Derived.RowKitTokens
import Derived.LaidLaws
import Derived.MakeChecks
namespace Go.Proofs.YtgpmcnakeeahbabGreat
open Go.ChangeShapes Go.WideShapes Go.RowKit
open Go.Aw (WF enters)
open Go.Ev (exT_ok exT XK ExtOk eng drawE Quiet SX SF EntOk PurOk ent_ok engT engT_ok tab tab_ok pur_ok purs_ok calls_trueT)

theorem quiet52 (vs : Array Value) (w : World) (hvs : vs.size = 2) : Quiet Tryz.prog 52 vs w := by
  obtain ⟨v0, v1, rfl⟩ : ∃ v0 v1, vs = #[v0, v1] := by
    refine ⟨vs[0], vs[1], ?_⟩
    apply Array.ext
    · simpa using hvs
    · intro i h1 h2
      match i, h2 with
      | 0, _ => rfl
      | 1, _ => rfl
  unfold Quiet
  refine callsDIn_of_wpSIn Tryz.func52 rfl trivial (fun c₀ cs hu => ?_)
  have hrec : recoverD (c₀ :: cs) = none := by simp [recoverD, hu]
  have tm : (#[v0, v1] ++ Array.replicate (Tryz.f52.ntmps - (#[v0, v1] : Array Value).size) undef : Array Value) = #[v0, v1, undef, undef, undef, undef, undef, undef, undef, undef, undef, undef, undef, undef, undef, undef, undef, undef, undef] := by kernel_rfl
  rw [tm]
  refine wpSIn_seq (wpSIn_region ?_)
  show wpOpsSIn _ _ _ _ _ [0, 1] _ _ _
  simp only [wpOpsSIn]
  refine ⟨fun _ _ => trivial, ?_⟩
  rw [if_pos (by kernel_rfl)]
  rw [show (execOp _ _).run Tryz.prog w = .ok .recover w by kernel_rfl]
  simp only [hrec]
  refine ⟨fun _ _ => trivial, ?_⟩
  rw [if_pos (by kernel_rfl)]
  rw [show (execOp _ _).run Tryz.prog w = .ok (.value .nilIface) w by kernel_rfl]
  simp only [Exit.thenS]
  refine wpSIn_seq (wpSIn_region ?_)
  show wpOpsSIn _ _ _ _ _ [0, 1] _ _ _
  simp only [wpOpsSIn]
  refine ⟨fun _ _ => trivial, ?_⟩
  rw [if_pos (by kernel_rfl)]
  rw [show (execOp _ _).run Tryz.prog w = .ok (.value .nilIface) w by kernel_rfl]
  simp only
  refine ⟨fun _ _ => trivial, ?_⟩
  rw [if_pos (by kernel_rfl)]
  rw [show (execOp _ _).run Tryz.prog w = .ok (.value (.bool false)) w by kernel_rfl]
  simp only [Exit.thenS]
  refine wpSIn_cond (t := false) (by kernel_rfl) (wpSIn_of_wpIn rfl (wpIn_skip ?_))
  exact ⟨rfl, c₀.mode, rfl, .tuple #[], by kernel_rfl, ⟨_, rfl⟩, hu, rfl⟩

theorem ex_ok : ∀ p ∈ exL, ExtOk Tryz.prog p.1 p.2 := by
  intro p hp
  simp only [exL, List.mem_cons, List.not_mem_nil, or_false] at hp
  rcases hp with rfl | rfl | rfl
  · exact ⟨Tryz.f124, Tryz.func124, by kernel_rfl, by kernel_rfl, by kernel_rfl, by kernel_rfl⟩
  · exact ⟨Tryz.f79, Tryz.func79, by kernel_rfl, by kernel_rfl, by kernel_rfl, by kernel_rfl⟩
  · exact ⟨by kernel_rfl, quiet52⟩

theorem hex : SX Tryz.prog (exT exL) := exT_ok exL ex_ok

theorem k1 : EntOk Tryz.prog q1 := ent_ok (engT_ok hex (tab_ok [] (by intro e h; cases h)) 1000 120).1 (by kernel_rfl) c1
theorem k2 : EntOk Tryz.prog q2 := ent_ok (engT_ok hex (tab_ok [] (by intro e h; cases h)) 1000 120).1 (by kernel_rfl) c2
theorem k3 : EntOk Tryz.prog q3 := ent_ok (engT_ok hex (tab_ok [q2] (by intro e h; simp only [List.mem_cons, List.not_mem_nil, or_false] at h; subst h; exact k2)) 1000 120).1 (by kernel_rfl) c3
theorem k4 : EntOk Tryz.prog q4 := ent_ok (engT_ok hex (tab_ok [q1, q3] (fun e h => (List.mem_cons.1 h).elim (fun q => q ▸ k1) (fun h => (List.mem_cons.1 h).elim (fun q => q ▸ k3) (fun h => by cases h)))) 1000 120).1 (by kernel_rfl) c4
theorem k5 : EntOk Tryz.prog q5 := ent_ok (engT_ok hex (tab_ok [] (by intro e h; cases h)) 1000 120).1 (by kernel_rfl) c5
theorem k6 : EntOk Tryz.prog q6 := ent_ok (engT_ok hex (tab_ok [] (by intro e h; cases h)) 1000 120).1 (by kernel_rfl) c6
theorem k7 : EntOk Tryz.prog q7 := ent_ok (engT_ok hex (tab_ok [q6] (by intro e h; simp only [List.mem_cons, List.not_mem_nil, or_false] at h; subst h; exact k6)) 1000 120).1 (by kernel_rfl) c7
theorem k8 : EntOk Tryz.prog q8 := ent_ok (engT_ok hex (tab_ok [q5, q7] (fun e h => (List.mem_cons.1 h).elim (fun q => q ▸ k5) (fun h => (List.mem_cons.1 h).elim (fun q => q ▸ k7) (fun h => by cases h)))) 1000 120).1 (by kernel_rfl) c8
theorem k9 : EntOk Tryz.prog q9 := ent_ok (engT_ok hex (tab_ok [] (by intro e h; cases h)) 1000 120).1 (by kernel_rfl) c9
theorem k10 : EntOk Tryz.prog q10 := ent_ok (engT_ok hex (tab_ok [] (by intro e h; cases h)) 1000 120).1 (by kernel_rfl) c10
theorem k11 : EntOk Tryz.prog q11 := ent_ok (engT_ok hex (tab_ok [q10] (by intro e h; simp only [List.mem_cons, List.not_mem_nil, or_false] at h; subst h; exact k10)) 1000 120).1 (by kernel_rfl) c11
theorem k12 : EntOk Tryz.prog q12 := ent_ok (engT_ok hex (tab_ok [q9, q11] (fun e h => (List.mem_cons.1 h).elim (fun q => q ▸ k9) (fun h => (List.mem_cons.1 h).elim (fun q => q ▸ k11) (fun h => by cases h)))) 1000 120).1 (by kernel_rfl) c12
theorem k13 : EntOk Tryz.prog q13 := ent_ok (engT_ok hex (tab_ok [q4, q8, q12] (fun e h => (List.mem_cons.1 h).elim (fun q => q ▸ k4) (fun h => (List.mem_cons.1 h).elim (fun q => q ▸ k8) (fun h => (List.mem_cons.1 h).elim (fun q => q ▸ k12) (fun h => by cases h))))) 1000 120).1 (by kernel_rfl) c13

theorem lives_ok : PurOk Tryz.prog 10 (.bool true) := pur_ok k13 rfl rfl rfl rfl trivial

theorem law_calls (n : Int) (W : World) : Calls Tryz.prog 3 #[.int .i64 n] W fun e W' => e = .returned (.bool true) ∧ ∀ may, W.keptBut W' may :=
  calls_trueT (N := 1000) (n := 120) (args := [.one]) hex (purs_ok [(10, .bool true)] (fun p h => by simp only [List.mem_cons, List.not_mem_nil, or_false] at h; subst h; exact lives_ok)) (by kernel_rfl) (by kernel_rfl) ⟨rfl, fun i d h => by
    cases i with
    | zero => simp at h; subst h; exact .one _ rfl
    | succ i => simp at h⟩

theorem Tryz.own : ownKnob Tryz.prog.godebug = none := by kernel_rfl

set_option maxRecDepth 100000 in
theorem law_lifted (os : Os) (started : os.Started) (H : Type) (enc : TypeId × Value → H) :
    ReturnsInHanded {} Tryz.checked os 3 .any (Rows.recheckNobodySpec.pre6 enc Tryz.prog Tryz.f3 [] false)
      (Rows.recheckNobodySpec.post enc Tryz.prog Tryz.f3 false true false false) := by
  refine returnsInHanded_of_change (C := Tryz.checked) Tryz.own started (by kernel_rfl) Tryz.func3
    (ChangeSpec.witness6 (enc := enc) (C := Tryz.checked) (os := os) false ⟨#[], #[.int .i64 0], []⟩ 8 (by kernel_rfl) (by kernel_rfl) (by kernel_rfl) (by kernel_rfl)) ?_
  intro W base args ds gs before hval0 hW _ _
  have hval : ∀ (j : Nat) t v, Tryz.f3.params[j]? = some t → args[j]? = some v → Value.okWide Tryz.prog W .any base t v := hval0
  have hW' := hW
  obtain ⟨p, q, hA0, hV0, rfl, hfz, hnd⟩ := hW
  have hA : DataW.TrodAll enc Tryz.prog W 0 (fun _ => true) true Tryz.f3.params.toList args.toList ds p := hA0
  have hV : DataW.TrodVars enc Tryz.prog W (fun _ => true) [] gs q := hV0
  rw [Tryz.params3] at hA hval
  obtain ⟨v0, d0, rfl, rfl, h0⟩ := trodAll_one hA
  obtain ⟨n, rfl, rfl, rfl, hwn⟩ := open_int Tryz.underlying3 (hval 0 3 v0 rfl rfl) h0
  obtain ⟨rfl, rfl⟩ : gs = [] ∧ q = [] := by
    cases gs with
    | nil => exact ⟨rfl, hV⟩
    | cons g r => exact absurd hV (by intro h; cases h)
  have e1 : Rows.recheckNobodySpec.fn H ([.lit (.int .i64 n)] ++ []) = { results := [.lit (.bool true)], args := [.lit (.int .i64 n)] } := by simp [Rows.recheckNobodySpec]
  refine (law_calls n W).mono fun e W' ⟨he, hw⟩ => ?_
  subst he
  refine ⟨_, rfl, _, _, _, [], [], [], hW', ?_, ?_, ?_, hw _, fun h => by cases h⟩
  · rw [e1]; exact trodAll_mk1 (shut_bool Tryz.underlying4 true)
  · rw [e1]; exact trodAll_mk1 (shut_int Tryz.underlying3 hwn)
  · rw [e1]; rfl

theorem recheckNobody_holds : Rows.RecheckNobodySaid :=
  OpenClaim.holds_of_wide 3 Tryz.f3 rfl rfl rfl rfl rfl rfl rfl ⟨rfl, rfl, rfl, rfl, rfl⟩ rfl rfl rfl rfl rfl (by kernel_rfl) Tryz.func3 (by kernel_rfl)
    (of_decide_eq_true (by kernel_rfl)) (by unfold Func.isWrapper; rw [if_neg (of_decide_eq_false (by kernel_rfl))]; exact ⟨rfl, rfl⟩)
    (fun os started H enc _ => law_lifted os started H enc)
#print axioms recheckNobody_holds
end Go.Proofs.YtgpmcnakeeahbabGreat
