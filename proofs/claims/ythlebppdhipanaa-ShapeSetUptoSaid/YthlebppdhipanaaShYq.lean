/-
  What is handed over, as shapes.
-/
import Derived.Test.YthlebppdhipanaaShab
import Derived.Test.YthlebppdhipanaaSyT
import Derived.KernelRfl
import Derived.ChangeVars
import Derived.JoinedOf
import Derived.RowKitTokens
import Derived.LaidLaws
import Derived.MakeChecks
import Derived.Carry
import Derived.Test.YthlebppdhipanaaShXn
import Derived.Test.YthlebppdhipanaaRows
import Derived.JoinedCond
set_option linter.all false
namespace Go.Proofs.Ythlebppdhipanaa
open Go.ChangeShapes Go.WideShapes Go.RowKit
open Go.Ev (TD TDf plainT read_agg R argsOk FnO)

theorem td_3 {n : Nat} {row : List Go.Ev.D} (h : TD Try.prog n 3 row) : ∃ i, row = [.lit (.int .i64 i)] := by
  cases n with
  | zero => cases h
  | succ n =>
    simp only [TD, Try.underlying3] at h
    obtain ⟨i, _, h⟩ := h
    exact ⟨i, h⟩
theorem td_9 {n : Nat} {row : List Go.Ev.D} (h : TD Try.prog n 9 row) : ∃ s, row = [.lit (.string s)] := by
  cases n with
  | zero => cases h
  | succ n =>
    simp only [TD, Try.underlying9] at h
    obtain ⟨i, _, h⟩ := h
    exact ⟨i, h⟩
theorem td_strs {m : Nat} : ∀ rows : List (List Go.Ev.D), (∀ r ∈ rows, TD Try.prog m 9 r) → ∃ l : List ByteArray, rows = Go.Ev.strsD l
  | [], _ => ⟨[], rfl⟩
  | r :: q, h => by
    obtain ⟨x, hx⟩ := td_9 (h r (by simp))
    obtain ⟨l, hl⟩ := td_strs q fun s hs => h s (by simp [hs])
    exact ⟨x :: l, by simp [Go.Ev.strsD, hx, hl]⟩
theorem td_shs {m : Nat} (ih : ∀ row, TD Try.prog m 25 row → ∃ x : Sh, row = rowS x) : ∀ rows : List (List Go.Ev.D), (∀ r ∈ rows, TD Try.prog m 25 r) → ∃ l : List Sh, rows = rowsS l
  | [], _ => ⟨[], rfl⟩
  | r :: q, h => by
    obtain ⟨x, hx⟩ := ih r (h r (by simp))
    obtain ⟨l, hl⟩ := td_shs ih q fun s hs => h s (by simp [hs])
    exact ⟨x :: l, by simp [rowsS, hx, hl]⟩
theorem td_sh : ∀ (n : Nat) (row : List Go.Ev.D), TD Try.prog n 25 row → ∃ x : Sh, row = rowS x := by
  intro n
  induction n using Nat.strongRecOn with
  | ind n ih =>
    intro row h
    cases n with
    | zero => cases h
    | succ n =>
      simp only [TD, Try.underlying25, TDf] at h
      obtain ⟨a, _, rfl, h1, b, _, rfl, h2, c, _, rfl, h3, rfl⟩ := h
      obtain ⟨k, rfl⟩ := td_3 h1
      cases n with
      | zero => cases h2
      | succ n =>
        simp only [TD, Try.underlying22] at h2
        simp only [TD, Try.underlying23] at h3
        obtain ⟨r2, rfl, h2⟩ := h2
        obtain ⟨r3, rfl, h3⟩ := h3
        obtain ⟨ns, rfl⟩ := td_strs r2 h2
        obtain ⟨l, rfl⟩ := td_shs (ih n (by omega)) r3 h3
        exact ⟨.mk k ns l, by simp [rowS, show Try.prog.cellsOf 25 = 3 by kernel_rfl, show Try.prog.cellsOf 9 = 1 by kernel_rfl]⟩

theorem Try.own : ownKnob Try.prog.godebug = none := by kernel_rfl
theorem Try.laidOut : laidOutB Try.prog = true := by kernel_rfl

end Go.Proofs.Ythlebppdhipanaa

/-
  The law ShapeSet returns true at every input of bulk at most 1048576, and what was handed over reads behind the call as it read ahead of it.
-/
namespace Go.Proofs.Ythlebppdhipanaa
open Go.ChangeShapes Go.WideShapes Go.RowKit Go.ChangeAt
open Go.Ev (TD TDf plainT read_agg read_ok R argsOk FnO fzOf Mem)

/-! ### What the bound tells -/
theorem bulk_pos {H : Type} (d : DataW H) : 1 ≤ Rows.uptoBulk d := by
  cases d with
  | lit l => cases l <;> simp [Rows.uptoBulk]
  | nil => simp [Rows.uptoBulk]
  | ptr d => simp [Rows.uptoBulk]
  | slice elems spare => simp [Rows.uptoBulk]
  | agg parts => simp [Rows.uptoBulk]
  | iface t d => simp [Rows.uptoBulk]
  | map entries => simp [Rows.uptoBulk]
  | held h => simp [Rows.uptoBulk]
theorem bulk_len {H : Type} : ∀ l : List (DataW H), l.length ≤ Rows.uptoBulkAll l
  | [] => by simp [Rows.uptoBulkAll]
  | x :: r => by
    have h1 := bulk_pos x
    have h2 := bulk_len r
    simp only [Rows.uptoBulkAll, List.length_cons]
    omega
theorem bulk_mem {H : Type} {d : DataW H} : ∀ {l : List (DataW H)}, d ∈ l → Rows.uptoBulk d ≤ Rows.uptoBulkAll l
  | [], h => by simp at h
  | x :: r, h => by
    simp only [Rows.uptoBulkAll]
    rcases List.mem_cons.1 h with rfl | h
    · omega
    · have := bulk_mem h; omega
theorem bulk_of {H : Type} {l : List (DataW H)} (hk : Rows.uptoSmall H l = true) : Rows.uptoBulkAll l ≤ 1048576 := of_decide_eq_true hk

/-! ### Slices of shapes that are handed over -/
theorem td_sl {n : Nat} {row : List Go.Ev.D} (h : TD Try.prog n 23 row) : ∃ l : List Sh, row = [.sq false 3 (rowsS l)] := by
  cases n with
  | zero => cases h
  | succ n =>
    simp only [TD, Try.underlying23] at h
    obtain ⟨r3, rfl, h3⟩ := h
    obtain ⟨l, rfl⟩ := td_shs (fun row => td_sh n row) r3 h3
    exact ⟨l, by simp [show Try.prog.cellsOf 25 = 3 by kernel_rfl]⟩
theorem read_shs {H : Type} {enc : TypeId × Value → H} {W : World} {a : Option Addr} {len cap : Nat} {d : DataW H} {ps : List MemPlace} (h : DataW.Trod enc Try.prog W 0 (fun _ => true) true 23 (.slice a len cap) d ps) :
    ∃ l : List Sh, R (Mem.none (fzOf W)) (.sq false 3 (rowsS l)) (.slice a len cap) ∧ l.length ≤ Rows.uptoBulk d := by
  obtain ⟨n, h⟩ := h
  have h : DataW.trod enc Try.prog W 0 (fun _ => true) true n 23 [.slice a len cap] = some (d, ps) := h
  obtain ⟨_, row, h1, h2⟩ := read_ok (ts := [25, 22, 23, 9, 3]) (by kernel_rfl) n 23 _ _ (by kernel_rfl) h
  obtain ⟨l, rfl⟩ := td_sl h1
  obtain ⟨v, h4, h5, _⟩ := h2.2 0 _ rfl
  simp at h4
  subst h4
  refine ⟨l, h5, ?_⟩
  have hlen : l.length = len := by
    generalize hq : rowsS l = rows at h5
    have hl : rows.length = l.length := by rw [← hq]; simp
    cases h5 with
    | sqn => simp at hl; omega
    | sq => exact hl.symm
  rw [hlen]
  rcases DataW.trod_slice Try.underlying23 h with ⟨h6, h7⟩ | ⟨a', len', cap', elems, rest, m, _, h6, h7, _, _, _, h8, _⟩
  · simp at h6
    rw [h6.2.1]
    exact Nat.zero_le _
  · simp at h6
    obtain ⟨rfl, rfl, rfl⟩ := h6
    cases h7
    have := bulk_len (elems.map (·.1))
    simp only [List.length_map] at this
    simp only [Rows.uptoBulk]
    omega

theorem law8_calls (W : World) (a : Option Addr) (len cap : Nat) (k : Int) (H : Type) (enc : TypeId × Value → H) (d0 : DataW H) (p0 : List MemPlace) (h0 : DataW.Trod enc Try.prog W 0 (fun _ => true) true 23 (.slice a len cap) d0 p0) (hb : Rows.uptoBulk d0 ≤ 1048576) :
    Calls Try.prog 8 #[.slice a len cap, .int .i64 k] W fun e W' => e = .returned (.bool true) ∧ Below W.heap.size W W' ∧ ∀ may, W.keptBut W' may := by
  obtain ⟨l, k0, hl⟩ := read_shs h0
  refine (law8_ok l k (by omega)).calls (by kernel_rfl) ⟨rfl, fun i d hi => ?_⟩
  match i, hi with
  | 0, hi => simp at hi; subst hi; exact k0
  | 1, hi => simp at hi; subst hi; exact .lit _ trivial
  | i + 2, hi => simp at hi

set_option maxRecDepth 100000 in
theorem law8_contract (H : Type) (enc : TypeId × Value → H) (W : World) (base : Nat) (args : Array Value) (ds gs : List (DataW H)) (before : List MemPlace)
    (hval : ∀ (j : Nat) t v, Try.f8.params[j]? = some t → args[j]? = some v → Value.okWide Try.prog W .any base t v)
    (hW : DataW.Whole enc Try.prog Try.f8.params.toList Rows.shapeSetSpec.vars false W args.toList ds gs before) (hk : Rows.uptoSmall H (ds ++ gs) = true) :
    Calls Try.prog 8 args W fun e W' => ∃ v, e = .returned v ∧ Rows.shapeSetSpec.post enc Try.prog Try.f8 false true false false W args v W' := by
  have hW' := hW
  have hlt0 := hW.lt
  obtain ⟨p, q, hA0, hV0, rfl, hfz, hnd⟩ := hW
  have hA : DataW.TrodAll enc Try.prog W 0 (fun _ => true) true Try.f8.params.toList args.toList ds p := hA0
  have hV : DataW.TrodVars enc Try.prog W (fun _ => true) [] gs q := hV0
  rw [Try.params8] at hA hval
  obtain ⟨v0, v1, d0, d1, p0, p1, rfl, rfl, rfl, h0, h1⟩ := trodAll_two hA
  obtain ⟨m, rfl, rfl, rfl, hwn⟩ := open_int Try.underlying3 (hval 1 3 v1 rfl rfl) h1
  obtain ⟨rfl, rfl⟩ : gs = [] ∧ q = [] := by
    cases gs with
    | nil => exact ⟨rfl, hV⟩
    | cons g r => exact absurd hV (by intro h; cases h)
  obtain ⟨a, len, cap, rfl⟩ := okWide_slice Try.underlying23 (hval 0 23 v0 rfl rfl)
  have hl0 : ∀ x ∈ p0, x.block < W.heap.size := fun x hx => hlt0 x (by simp [hx])
  have e1 : Rows.shapeSetSpec.fn H ([d0, .lit (.int .i64 m)] ++ []) = { results := [.lit (.bool true)], args := [d0, .lit (.int .i64 m)] } := by simp [Rows.shapeSetSpec]
  have hk2 := bulk_of hk
  simp only [List.append_nil, Rows.uptoBulkAll] at hk2
  have hbk : Rows.uptoBulk d0 ≤ 1048576 := by omega
  refine (law8_calls W a len cap m H enc d0 p0 h0 hbk).mono fun e W' ⟨he, hb, hw⟩ => ?_
  subst he
  refine ⟨_, rfl, _, _, _, [], p0 ++ [], [], hW', ?_, ?_, ?_, hw _, fun h => by cases h⟩
  · rw [e1]; exact trodAll_mk1 (shut_bool Try.underlying4 true)
  · rw [e1]; exact trodAll_mk2 (Below.trod Try.laidOut (by kernel_rfl) (of_decide_eq_true (by kernel_rfl)) h0 hb hl0) (shut_int Try.underlying3 hwn)
  · rw [e1]; rfl

set_option maxRecDepth 100000 in
theorem law8_lifted (os : Os) (started : os.Started) (H : Type) (enc : TypeId × Value → H) (F : Stop.Interp) :
    ReturnsInHanded {} Try.checked os 8 .any ((Rows.OpenSpec.upto Rows.shapeSetSpec).pre6 enc Try.prog Try.f8 Rows.shapeSetUptoRow.domain false) (((Rows.OpenSpec.upto Rows.shapeSetSpec).at F).post enc Try.prog Try.f8 false true false false) := by
  refine returnsInHanded_of_cond (C := Try.checked) (s := Rows.OpenSpec.upto Rows.shapeSetSpec) (k := Rows.uptoSmall) rfl Try.own started (by kernel_rfl) Try.func8
    (OpenSpec.witness (enc := enc) (C := Try.checked) (s := Rows.OpenSpec.upto Rows.shapeSetSpec) (k := Rows.uptoSmall) rfl false ⟨#[], #[.slice none 0 0, .int .i64 0], []⟩ 8 (by kernel_rfl) (by kernel_rfl) (by kernel_rfl)
      (x := ([.nil, .lit (.int .i64 0)], [], [])) (by kernel_rfl) rfl (by kernel_rfl)) ?_
  intro W base args ds gs before hval hW _ hk _
  exact law8_contract H enc W base args ds gs before hval hW hk

theorem shapeSetUpto_holds : Rows.ShapeSetUptoSaid :=
  OpenClaim.holds_of_cond 8 Try.f8 rfl rfl rfl rfl rfl rfl rfl ⟨rfl, rfl, rfl, rfl, rfl⟩ rfl rfl rfl rfl rfl (by kernel_rfl) Try.func8 (by kernel_rfl)
    (of_decide_eq_true (by kernel_rfl)) (by unfold Func.isWrapper; rw [if_neg (of_decide_eq_false (by kernel_rfl))]; exact ⟨rfl, rfl⟩)
    (fun os started H enc _ F => law8_lifted os started H enc F)
end Go.Proofs.Ythlebppdhipanaa
