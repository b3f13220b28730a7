/-
  The example of shapes: one of some, and a record, as texts.
-/
import Derived.Test.YthlebppdhipanaaShMx
import Derived.Test.YthlebppdhipanaaSymc
import Derived.Test.YthlebppdhipanaaShVx
set_option linter.all false
namespace Go.Ev
open Go.Aw (WF enters tiOf)

/-- Two texts, compared by the model's own function. -/
def cmpX (args : List D) (h : H) : Option (D × H) := match args with
  | [.lit (.string a), .lit (.string b)] => some (.lit (.int .i64 (Lib.compareBytes a.data.toList b.data.toList)), h)
  | _ => none
theorem cmpX_some {args : List D} {h h' : H} {d : D} (he : cmpX args h = some (d, h')) : ∃ a b, args = [.lit (.string a), .lit (.string b)] ∧ d = .lit (.int .i64 (Lib.compareBytes a.data.toList b.data.toList)) ∧ h' = h := by
  unfold cmpX at he
  split at he
  · cases he; exact ⟨_, _, rfl, rfl, rfl⟩
  · cases he
def cmpE (g0 : FuncId) : CF := fun g args h => bif Nat.beq g g0 then cmpX args h else none
theorem cmpE_ok {P : Program} {g0 : FuncId} {fn : Func} (e1 : P.funcs[g0]? = some fn) (e2 : (fn.name == "runtime.NumGoroutine") = false) (e3 : fn.body.isNone = true) (e4 : (Extern.findNext fn).isNone = true) (e5 : Extern.find fn = some Extern.BytealgCompare.compare) : SX P (cmpE g0) := by
  refine ⟨fun g args h d h' he hen M w vs hr ha => ?_, fun g args h d h' he hen => ?_⟩
  · unfold cmpE at he
    obtain ⟨hg, he2⟩ := bif_some he
    clear he
    have hg := Nat.eq_of_beq_eq_true hg
    subst hg
    obtain ⟨a, b, rfl, rfl, rfl⟩ := cmpX_some he2
    obtain ⟨v, u, rfl, h1, h2⟩ := args2 ha
    cases h1
    cases h2
    refine ⟨_, w, M, ?_, hr, .lit _ trivial, Ext.refl M w⟩
    unfold callFunc
    have e4' : Extern.findNext fn = none := by simpa using e4
    simp only [Sem.run_bind, run_program, Result.andThen_ok, e1]
    rw [if_neg (by rw [e2]; simp), if_pos e3]
    simp [e4', e5, Lib.run_compareString]
  · unfold cmpE at he
    obtain ⟨hg, he⟩ := bif_some he
    have hg := Nat.eq_of_beq_eq_true hg
    subst hg
    unfold enters at hen
    rw [e1] at hen
    cases hb : fn.body <;> simp [hb] at e3 hen

end Go.Ev
namespace Go.Proofs.Ythlebppdhipanaa
open Go.Ev
open Go.Aw (tiOf fieldsOf sB)

theorem cmp_ok : SX Try.prog (cmpE 120) := cmpE_ok Try.func120 (by kernel_rfl) (by kernel_rfl) (by kernel_rfl) (by kernel_rfl)
theorem engC (n : Nat) : SF Try.prog (engT Try.prog (cmpE 120) (joinE 75) 1000 n).1 := (engT_ok cmp_ok (joinE_ok (by kernel_rfl) joinJ) 1000 n).1
def niD : D := .lit (.slice none 0 0)
def n6D (k : Int) : D := .lit (.int .i64 k)
def eRec : Go.Ev.Ent := ⟨30, [.sl 3 0 2 (some 2)], [(3, .cells 51 none [.lit (.string ⟨#[98]⟩), n6D 2, niD, niD, .lit (.string ⟨#[97]⟩), n6D 3, niD, niD])], 4,
  .agg [n6D 6, .sl 43 0 2 none, .sl 45 0 2 none], [(43, .cells 9 (some 1) [.lit (.string ⟨#[97]⟩), .lit (.string ⟨#[98]⟩)]), (45, .cells 25 (some 3) [n6D 3, niD, niD, n6D 2, niD, niD])], 61⟩
def eTxt : Go.Ev.Ent := ⟨54, [.agg [n6D 6, .sl 43 0 2 none, .sl 45 0 2 none]], [(43, .cells 9 (some 1) [.lit (.string ⟨#[97]⟩), .lit (.string ⟨#[98]⟩)]), (45, .cells 25 (some 3) [n6D 3, niD, niD, n6D 2, niD, niD])], 61,
  .lit (.string ⟨#[123, 97, 58, 98, 111, 111, 108, 44, 98, 58, 105, 110, 116, 125]⟩), [], 89⟩
theorem eRec_ok : EntOk Try.prog eRec := ent_ok (engC 60) (by kernel_rfl) (by kernel_rfl)
theorem eTxt_ok : EntOk Try.prog eTxt := ent_ok (engC 60) (by kernel_rfl) (by kernel_rfl)
theorem plain35 (k : Int) (hk : k = 2 ∨ k = 3 ∨ k = 4) : FnO Try.prog 35 [.lit (.int .i64 k)] (.ret (.agg [.lit (.int .i64 k), .lit (.slice none 0 0), .lit (.slice none 0 0)])) := by
  rcases hk with rfl | rfl | rfl <;> exact fnO_of_engD (engC 10) (by kernel_rfl) (by simp) (by kernel_rfl)
noncomputable def p35T : List D → Option (Prop × D) := ctr (fun k : Int => [.lit (.int .i64 k)]) (fun k => k = 2 ∨ k = 3 ∨ k = 4) (fun k => .agg [.lit (.int .i64 k), .lit (.slice none 0 0), .lit (.slice none 0 0)])
theorem p35T_eq (k : Int) : p35T [.lit (.int .i64 k)] = some (k = 2 ∨ k = 3 ∨ k = 4, .agg [.lit (.int .i64 k), .lit (.slice none 0 0), .lit (.slice none 0 0)]) := ctr_enc (fun a b h => by simpa using h) k
theorem p35T_ok : ∀ xs p d, p35T xs = some (p, d) → p → FnO Try.prog 35 xs (.ret d) ∧ D.belL 0 xs = true ∧ D.bel 0 d = true :=
  ctr_ok fun k h => ⟨plain35 k h, by simp, by simp⟩

@[simp] theorem ti49 : tiOf Try.prog 49 = some ⟨1, 24, (.sl 51), [.zl]⟩ := by kernel_rfl
@[simp] theorem ti51 : tiOf Try.prog 51 = some ⟨4, 72, (.st [(0, 9), (1, 25)]), [.zs, (.zn .i64), .zl, .zl]⟩ := by kernel_rfl
@[simp] theorem fo51_0 : fieldsOf Try.prog 51 0 = some ((0, ⟨1, 16, .str, [.zs]⟩)) := by kernel_rfl
@[simp] theorem fo51_1 : fieldsOf Try.prog 51 1 = some ((1, ⟨3, 56, (.st [(0, 3), (1, 22), (2, 23)]), [(.zn .i64), .zl, .zl]⟩)) := by kernel_rfl
@[simp] theorem pl51 : Go.Aw.plOf Try.prog 51 = some ([(0, 1), (1, 3)]) := by kernel_rfl
def shI : Sh := .mk 2 [] []
def shX : Sh := .mk 4 [] []
theorem goodIX : ∀ s ∈ [shX, shI, shX], goodS s = true := fun s hs => by
  simp only [List.mem_cons, List.not_mem_nil, or_false] at hs
  rcases hs with h | h | h <;> subst h <;> kernel_rfl
theorem orIX : orS [shX, shI, shX] = .mk 8 [] [shI, shX] := by
  rw [or_eq (by simp) goodIX, fl_none (fun s hs => by
    simp only [List.mem_cons, List.not_mem_nil, or_false] at hs
    rcases hs with h | h | h <;> subst h <;> decide), ← ins_out (flat_right goodIX)]
  kernel_rfl
theorem or_ex : FnO Try.prog 22 [.sq true 3 [[n6D 4, niD, niD], [n6D 2, niD, niD], [n6D 4, niD, niD]]] (.ret (.agg (rowS (.mk 8 [] [shI, shX])))) := by
  rw [← orIX]
  refine fnO_wk (or_ok [shX, shI, shX] (by decide) (fun s hs => ?_)) ⟨Wk.sqL (fun h => by cases h) ⟨⟨.refl _, .nil _ _, .nil _ _, trivial⟩, ⟨.refl _, .nil _ _, .nil _ _, trivial⟩, ⟨.refl _, .nil _ _, .nil _ _, trivial⟩, trivial⟩, trivial⟩
  simp only [List.mem_cons, List.not_mem_nil, or_false] at hs
  rcases hs with h | h | h <;> subst h <;> exact ⟨by kernel_rfl, by decide⟩
theorem txt_ex : FnO Try.prog 54 [.agg (rowS (.mk 8 [] [shI, shX]))] (.ret (.lit (.string ⟨#[91, 105, 110, 116, 124, 116, 101, 120, 116, 93]⟩))) := by
  have := textT_ok (.mk 8 [] [shI, shX]) ⟨by kernel_rfl, by decide⟩
  rwa [show textG (.mk 8 [] [shI, shX]) = ⟨#[91, 105, 110, 116, 124, 116, 101, 120, 116, 93]⟩ by kernel_rfl] at this

set_option maxHeartbeats 4000000 in
set_option maxRecDepth 20000 in
theorem lives29_ok : FnO Try.prog 29 [] (.ret (.lit (.bool true))) := by
  have ht := tbC_ok p35T_ok (tb0_ok Try.prog)
  refine fnO_of Try.func29 rfl (by kernel_rfl) (by simp [Try.ntmps29]) fun I => ?_
  refine w_seq (wx_ok ht fol _ _ _ (by kernel_rfl) ?_)
  simp -implicitDefEqProofs [Try.ntmps29]
  refine w_seq (wx_ok ht fol _ _ _ (by kernel_rfl) ?_)
  simp -implicitDefEqProofs [p35T_eq]
  refine w_seq (w_seqOk (seqOk_step rfl rfl rfl ?_))
  simp -implicitDefEqProofs
  refine seqOk_step rfl rfl rfl ?_
  simp -implicitDefEqProofs
  refine seqOk_step rfl rfl rfl ?_
  simp -implicitDefEqProofs
  refine seqOk_cons rfl rfl (opS_bs ?_)
  simp -implicitDefEqProofs [show List.range 3 = [0, 1, 2] from rfl]
  refine seqOk_step rfl rfl rfl ?_
  simp -implicitDefEqProofs
  refine callS_fn (.agg (rowS (.mk 8 [] [shI, shX]))) (fun _ => trivial) (fun _ => or_ex) (by simp) (by simp) (by simp) ?_
  simp -implicitDefEqProofs
  refine seqOk_step rfl rfl rfl ?_
  simp -implicitDefEqProofs
  refine callS_fn (.lit (.string ⟨#[91, 105, 110, 116, 124, 116, 101, 120, 116, 93]⟩)) (fun _ => trivial) (fun _ => txt_ex) (by simp) (by simp) (by simp) ?_
  simp -implicitDefEqProofs
  refine seqOk_W true ht (by simp) ?_
  simp -implicitDefEqProofs
  refine callS_ent (e := eRec) eRec_ok rfl (fun i k h => ?_) rfl trivial ?_
  · by_cases hi : i = 3
    · subst hi
      exact h
    · simp [eRec, lk, hi] at h
      exact absurd h.1.symm hi
  simp -implicitDefEqProofs [eRec]
  refine callS_ent (e := eTxt) eTxt_ok rfl (fun i k h => ?_) rfl trivial ?_
  · exact h
  simp -implicitDefEqProofs [eTxt]
  exact wx_ok ht fol _ _ _ (by kernel_rfl) (by simp -implicitDefEqProofs; exact .same _ (by simp))
end Go.Proofs.Ythlebppdhipanaa
