/-
  Names: by the program, and by the document.
-/
import Derived.Test.YthlebppdhipanaaShab
set_option linter.all false
namespace Go.Proofs.Ythlebppdhipanaa
open Go.Ev
open Go.Aw (tiOf fieldsOf sB)

theorem seals_bool {hp : List (Nat × Blk)} {b c : Bool} (h : c = b) : Seals hp (.lit (.bool b)) (.lit (.bool c)) := by
  subst h
  exact .same _ (by simp)

def startC (c : Int) : Bool := (decide (c ≥ 97) && decide (c ≤ 122)) || (decide (c ≥ 65) && decide (c ≤ 90)) || c == 95
def digitC (c : Int) : Bool := decide (c ≥ 48) && decide (c ≤ 57)

noncomputable def u8T (f : Int → Bool) : List D → Option (Prop × D) := ctr (fun c : Int => [.lit (.int .u8 c)]) (fun _ => True) (fun c => .lit (.bool (f c)))
theorem u8T_eq (f : Int → Bool) (c : Int) : u8T f [.lit (.int .u8 c)] = some (True, .lit (.bool (f c))) := ctr_enc (fun a b h => by simpa using h) c
theorem u8T_ok {g : FuncId} {f : Int → Bool} (h : ∀ c, FnO Try.prog g [.lit (.int .u8 c)] (.ret (.lit (.bool (f c))))) : ∀ xs p d, u8T f xs = some (p, d) → p → FnO Try.prog g xs (.ret d) ∧ D.belL 0 xs = true ∧ D.bel 0 d = true :=
  ctr_ok fun c _ => ⟨h c, by simp, by simp⟩

set_option maxRecDepth 10000 in
theorem start_ok (c : Int) : FnO Try.prog 85 [.lit (.int .u8 c)] (.ret (.lit (.bool (startC c)))) := by
  refine fnO_wp (tb0_ok _) fol Try.func85 rfl (by kernel_rfl) (by simp [Try.ntmps85]) (by kernel_rfl) fun I => ?_
  simp -implicitDefEqProofs [Try.ntmps85]
  exact ⟨fun h => ⟨h, fun h2 => ⟨h, h2⟩⟩, fun h => by omega, fun h1 h2 => by omega, seals_bool rfl⟩

set_option maxRecDepth 10000 in
theorem digit_ok (c : Int) : FnO Try.prog 117 [.lit (.int .u8 c)] (.ret (.lit (.bool (digitC c)))) := by
  refine fnO_wp (tb0_ok _) fol Try.func117 rfl (by kernel_rfl) (by simp [Try.ntmps117]) (by kernel_rfl) fun I => ?_
  simp -implicitDefEqProofs [Try.ntmps117]
  exact seals_bool rfl

set_option maxRecDepth 10000 in
theorem part_ok (c : Int) : FnO Try.prog 87 [.lit (.int .u8 c)] (.ret (.lit (.bool (startC c || digitC c)))) := by
  have ht := tbC_ok (P := Try.prog) (u8T_ok start_ok) (tbC_ok (u8T_ok digit_ok) (tb0_ok _))
  refine fnO_wp ht fol Try.func87 rfl (by kernel_rfl) (by simp [Try.ntmps87]) (by kernel_rfl) fun I => ?_
  cases hS : startC c
  all_goals
    simp -implicitDefEqProofs [Try.ntmps87, u8T_eq, hS]
    exact seals_bool rfl

def hasB (s : ByteArray) (c : Int) : Bool := (sB s).any fun b => ((b.toNat : Int) == c)

def hasF (s : ByteArray) (c : Int) (i : Nat) : S := S.mk 17 [(0, .lit (.string s)), (1, .lit (.int .u8 c)), (5, .lit (.int .i64 i))] [] 0 [] none []

set_option maxRecDepth 10000 in
theorem has_ok (s : ByteArray) (c : Int) (hs : s.size ≤ 1000000) : FnO Try.prog 121 [.lit (.string s), .lit (.int .u8 c)] (.ret (.lit (.bool (hasB s c)))) := by
  have ht := tb0_ok Try.prog
  refine fnO_wp ht fol Try.func121 rfl (by kernel_rfl) (by simp [Try.ntmps121]) (by kernel_rfl) fun I => ?_
  simp -implicitDefEqProofs [Try.ntmps121]
  have hl : (sB s).length = s.size := by simp [sB]
  refine w_loop (fun i : { i : Nat // i ≤ (sB s).length ∧ ∀ j (h : j < (sB s).length), j < i → ¬ (((sB s)[j].toNat : Int) = c) } => hasF s c i.1) (fun i => (sB s).length - i.1) ⟨0, Nat.zero_le _, fun j _ h => by omega⟩ (le_of [] (by simp [hasF])) fun ⟨i, hi, hall⟩ => wp_ok ht fol _ _ _ (by kernel_rfl) ?_
  have hw : IntKind.i64.wrap ((i : Int) + 1) = (i : Int) + 1 := wrap64 (by omega) (by omega)
  by_cases hil : i < (sB s).length
  · simp -implicitDefEqProofs [hasF, hil, hw]
    refine ⟨fun h => seals_bool ?_, fun h => ⟨i + 1, le_of [] (by simp), ⟨by omega, fun j hj hlt => ?_⟩, by omega⟩⟩
    · simp only [hasB, List.any_eq_true, beq_iff_eq]
      exact ⟨_, List.getElem_mem hil, h⟩
    · by_cases h2 : j = i
      · subst h2; exact h
      · exact hall j hj (by omega)
  · have : i = (sB s).length := by omega
    subst this
    simp -implicitDefEqProofs [hasF]
    refine seals_bool ?_
    simp only [hasB, List.any_eq_false, beq_iff_eq]
    intro x hx
    obtain ⟨j, hj, rfl⟩ := List.mem_iff_getElem.1 hx
    exact hall j hj hj

noncomputable def hasT : List D → Option (Prop × D) := ctr (fun p : ByteArray × Int => [.lit (.string p.1), .lit (.int .u8 p.2)]) (fun p => p.1.size ≤ 1000000) (fun p => .lit (.bool (hasB p.1 p.2)))
theorem hasT_eq (s : ByteArray) (c : Int) : hasT [.lit (.string s), .lit (.int .u8 c)] = some (s.size ≤ 1000000, .lit (.bool (hasB s c))) := ctr_enc (fun a b h => by simp at h; exact Prod.ext h.1 h.2) (s, c)
theorem hasT_ok : ∀ xs p d, hasT xs = some (p, d) → p → FnO Try.prog 121 xs (.ret d) ∧ D.belL 0 xs = true ∧ D.bel 0 d = true :=
  ctr_ok fun c h => ⟨has_ok c.1 c.2 h, by simp, by simp⟩

theorem hasStart (c : Int) : hasB ⟨#[97, 98, 99, 100, 101, 102, 103, 104, 105, 106, 107, 108, 109, 110, 111, 112, 113, 114, 115, 116, 117, 118, 119, 120, 121, 122, 65, 66, 67, 68, 69, 70, 71, 72, 73, 74, 75, 76, 77, 78, 79, 80, 81, 82, 83, 84, 85, 86, 87, 88, 89, 90, 95]⟩ c = startC c := by
  rw [Bool.eq_iff_iff]
  simp [hasB, startC, sB]
  omega
theorem hasDigit (c : Int) : hasB ⟨#[48, 49, 50, 51, 52, 53, 54, 55, 56, 57]⟩ c = digitC c := by
  rw [Bool.eq_iff_iff]
  simp [hasB, digitC, sB]
  omega

set_option maxRecDepth 10000 in
theorem rstart_ok (c : Int) : FnO Try.prog 91 [.lit (.int .u8 c)] (.ret (.lit (.bool (startC c)))) := by
  have ht := tbC_ok (P := Try.prog) hasT_ok (tb0_ok _)
  refine fnO_wp ht fol Try.func91 rfl (by kernel_rfl) (by simp [Try.ntmps91]) (by kernel_rfl) fun I => ?_
  simp -implicitDefEqProofs [Try.ntmps91, hasT_eq, hasStart]
  exact seals_bool rfl
set_option maxRecDepth 10000 in
theorem rdigit_ok (c : Int) : FnO Try.prog 123 [.lit (.int .u8 c)] (.ret (.lit (.bool (digitC c)))) := by
  have ht := tbC_ok (P := Try.prog) hasT_ok (tb0_ok _)
  refine fnO_wp ht fol Try.func123 rfl (by kernel_rfl) (by simp [Try.ntmps123]) (by kernel_rfl) fun I => ?_
  simp -implicitDefEqProofs [Try.ntmps123, hasT_eq, hasDigit]
  exact seals_bool rfl
set_option maxRecDepth 10000 in
theorem rpart_ok (c : Int) : FnO Try.prog 93 [.lit (.int .u8 c)] (.ret (.lit (.bool (startC c || digitC c)))) := by
  have ht := tbC_ok (P := Try.prog) (u8T_ok rstart_ok) (tbC_ok (u8T_ok rdigit_ok) (tb0_ok _))
  refine fnO_wp ht fol Try.func93 rfl (by kernel_rfl) (by simp [Try.ntmps93]) (by kernel_rfl) fun I => ?_
  cases hS : startC c
  all_goals
    simp -implicitDefEqProofs [Try.ntmps93, u8T_eq, hS]
    exact seals_bool rfl

/-! ### Words -/
def wordsL : List ByteArray := [⟨#[116, 121, 112, 101]⟩, ⟨#[100, 101, 102]⟩, ⟨#[102, 110]⟩, ⟨#[108, 101, 116]⟩, ⟨#[105, 110]⟩, ⟨#[105, 102]⟩, ⟨#[116, 104, 101, 110]⟩, ⟨#[101, 108, 115, 101]⟩, ⟨#[116, 114, 117, 101]⟩, ⟨#[102, 97, 108, 115, 101]⟩, ⟨#[110, 111, 110, 101]⟩, ⟨#[105, 110, 116]⟩, ⟨#[98, 111, 111, 108]⟩, ⟨#[116, 101, 120, 116]⟩, ⟨#[100, 121, 110]⟩]
def wordB (s : ByteArray) : Bool := wordsL.any fun w => decide (w = s)

def exW : List (FuncId × XK) := []
theorem words_ok : FnO Try.prog 116 [] (.ret (.agg (wordsL.map fun w => .lit (.string w)))) :=
  fnO_of_engD (eng_sound (exT_ok exW (fun p hp => by cases hp)) 100 10) (by kernel_rfl) (by simp [wordsL]) (by kernel_rfl)
set_option maxRecDepth 10000 in
theorem rwords_ok : FnO Try.prog 122 [] (.ret (.sq false 1 (strsD wordsL))) := by
  refine fnO_wp (tb0_ok _) fol Try.func122 rfl (by kernel_rfl) (by simp [Try.ntmps122]) (by kernel_rfl) fun I => ?_
  simp -implicitDefEqProofs [Try.ntmps122]
  exact seals_sl (ty := 9) (op := none) (rows := strsD wordsL) (by simp [wordsL, strsD, lk]) (by simp [wordsL]) (strsD_rows _) (by simp)

noncomputable def cT (d : D) : List D → Option (Prop × D) := ctr (fun _ : Unit => []) (fun _ => True) (fun _ => d)
theorem cT_eq (d : D) : cT d [] = some (True, d) := ctr_enc (fun _ _ _ => rfl) ()
theorem cT_ok {g : FuncId} {d : D} (h : FnO Try.prog g [] (.ret d)) (hb : D.bel 0 d = true) : ∀ xs p e, cT d xs = some (p, e) → p → FnO Try.prog g xs (.ret e) ∧ D.belL 0 xs = true ∧ D.bel 0 e = true :=
  ctr_ok fun _ _ => ⟨h, by simp, hb⟩

theorem wordB_true {s : ByteArray} {i : Nat} (h : i < wordsL.length) (hs : wordsL[i] = s) : wordB s = true := by
  simp only [wordB, List.any_eq_true, decide_eq_true_eq]
  exact ⟨_, List.getElem_mem h, hs⟩
theorem wordB_false {s : ByteArray} (h : ∀ j (h : j < wordsL.length), ¬ wordsL[j] = s) : wordB s = false := by
  simp only [wordB, List.any_eq_false, decide_eq_true_eq]
  intro x hx
  obtain ⟨j, hj, rfl⟩ := List.mem_iff_getElem.1 hx
  exact h j hj
theorem wordsL_len : wordsL.length = 15 := rfl

def rwordF (s : ByteArray) (i : Nat) : S := S.mk 18 [(0, .lit (.string s)), (3, .sq false 1 (strsD wordsL)), (4, .lit (.int .i64 i))] [] 0 [] none []

set_option maxRecDepth 10000 in
theorem rword_ok (s : ByteArray) : FnO Try.prog 92 [.lit (.string s)] (.ret (.lit (.bool (wordB s)))) := by
  have ht := tbC_ok (P := Try.prog) (cT_ok rwords_ok (by simp)) (tb0_ok _)
  refine fnO_wp ht fol Try.func92 rfl (by kernel_rfl) (by simp [Try.ntmps92]) (by kernel_rfl) fun I => ?_
  simp -implicitDefEqProofs [Try.ntmps92, cT_eq]
  have hwl := wordsL_len
  generalize hW : wordsL = ws at *
  refine w_loop (fun i : { i : Nat // i ≤ ws.length ∧ ∀ j (h : j < ws.length), j < i → ¬ ws[j] = s } => S.mk 18 [(0, .lit (.string s)), (3, .sq false 1 (strsD ws)), (4, .lit (.int .i64 i.1))] [] 0 [] none []) (fun i => ws.length - i.1) ⟨0, Nat.zero_le _, fun j _ h => by omega⟩ (le_of [] (by simp)) fun ⟨i, hi, hall⟩ => wp_ok ht fol _ _ _ (by kernel_rfl) ?_
  have hw : IntKind.i64.wrap ((i : Int) + 1) = (i : Int) + 1 := wrap64 (by omega) (by omega)
  by_cases hil : i < ws.length
  · simp -implicitDefEqProofs [hil, hw]
    refine ⟨fun h => seals_bool ?_, fun h => ⟨i + 1, le_of [] (by simp), ⟨by omega, fun j hj hlt => ?_⟩, by omega⟩⟩
    · subst hW
      exact wordB_true hil h
    · by_cases h2 : j = i
      · subst h2; exact h
      · exact hall j hj (by omega)
  · have : i = ws.length := by omega
    subst this
    simp -implicitDefEqProofs
    refine seals_bool ?_
    subst hW
    exact wordB_false fun j hj => hall j hj hj

def wlit (ws : List ByteArray) : List D := ws.map fun w => .lit (.string w)
@[simp] theorem wlit_bel (ws : List ByteArray) : D.belL 0 (wlit ws) = true := by
  induction ws with
  | nil => rfl
  | cons w r ih => simp only [wlit, List.map_cons] at ih ⊢; simp [ih]
@[simp] theorem wlit_ren (f : Nat → Nat) (ws : List ByteArray) : D.renL f (wlit ws) = wlit ws := renL_free f _ (wlit_bel ws)
@[simp] theorem wlit_length (ws : List ByteArray) : (wlit ws).length = ws.length := by simp [wlit]
@[simp] theorem ti124 : tiOf Try.prog 124 = some ⟨15, 240, (.arr 15 9), [.zs, .zs, .zs, .zs, .zs, .zs, .zs, .zs, .zs, .zs, .zs, .zs, .zs, .zs, .zs]⟩ := by kernel_rfl

set_option maxRecDepth 10000 in
theorem index124 (ws : List ByteArray) (i : Nat) (h : i < ws.length) (h15 : i < 15) : indexE Try.prog 124 (.agg (wlit ws)) (.lit (.int .i64 (i : Int))) = some (.lit (.string ws[i])) := by
  have e : indexE Try.prog 124 (.agg (wlit ws)) (.lit (.int .i64 (Int.ofNat i))) = (match tiOf Try.prog 124 with
    | some { k := .arr n e, .. } => (match tiOf Try.prog e with
      | some te => bif Nat.blt i n then partE te (wlit ws) (i * te.size) else none
      | _ => none)
    | _ => none) := by
    unfold indexE
    rw [ti124]
    rfl
  rw [show (i : Int) = Int.ofNat i from rfl, e, ti124]
  simp only [ti9]
  rw [show Nat.blt i 15 = true by simpa using h15]
  simp only [cond_true, partE]
  simp [wlit, List.getElem?_eq_getElem h, Aw.TI.agg.eq_def, Aw.TK.agg.eq_def]
  rw [decide_eq_true (show i + 1 ≤ ws.length by omega), cond_true]

set_option maxRecDepth 10000 in
theorem word_ok (s : ByteArray) : FnO Try.prog 86 [.lit (.string s)] (.ret (.lit (.bool (wordB s)))) := by
  have hwk := words_ok
  have ht := tbC_ok (P := Try.prog) (cT_ok (show FnO Try.prog 116 [] (.ret (.agg (wlit wordsL))) from words_ok) (by simp)) (tb0_ok _)
  refine fnO_wp ht fol Try.func86 rfl (by kernel_rfl) (by simp [Try.ntmps86]) (by kernel_rfl) fun I => ?_
  simp -implicitDefEqProofs [Try.ntmps86, cT_eq]
  have hwl := wordsL_len
  generalize hW : wordsL = ws at *
  refine w_loop (fun i : { i : Nat // i ≤ ws.length ∧ ∀ j (h : j < ws.length), j < i → ¬ ws[j] = s } => S.mk 13 [(0, .lit (.string s)), (5, .agg (wlit ws)), (6, .lit (.int .i64 i.1))] [] 0 [] none []) (fun i => ws.length - i.1) ⟨0, Nat.zero_le _, fun j _ h => by omega⟩ (le_of [] (by simp)) fun ⟨i, hi, hall⟩ => wp_ok ht fol _ _ _ (by kernel_rfl) ?_
  have hw : IntKind.i64.wrap ((i : Int) + 1) = (i : Int) + 1 := wrap64 (by omega) (by omega)
  by_cases hil : i < ws.length
  · have hil15 : (i : Int) < 15 := by omega
    simp -implicitDefEqProofs [hil, hw, hil15, index124 ws i hil (by omega)]
    refine ⟨fun h => seals_bool ?_, fun h => ⟨i + 1, le_of [] (by simp), ⟨by omega, fun j hj hlt => ?_⟩, by omega⟩⟩
    · subst hW
      exact wordB_true hil h
    · by_cases h2 : j = i
      · subst h2; exact h
      · exact hall j hj (by omega)
  · have : i = ws.length := by omega
    subst this
    simp -implicitDefEqProofs [hwl]
    refine seals_bool ?_
    subst hW
    exact wordB_false fun j hj => hall j hj hj

/-! ### Names -/
def partC (c : Int) : Bool := startC c || digitC c
def nameB (s : ByteArray) : Bool := startC ((sB s).getD 0 0).toNat && (!wordB s && (sB s).all fun b => partC b.toNat)

noncomputable def sT (q : ByteArray → Prop) (f : ByteArray → Bool) : List D → Option (Prop × D) := ctr (fun s : ByteArray => [.lit (.string s)]) q (fun s => .lit (.bool (f s)))
theorem sT_eq (q : ByteArray → Prop) (f : ByteArray → Bool) (s : ByteArray) : sT q f [.lit (.string s)] = some (q s, .lit (.bool (f s))) := ctr_enc (fun a b h => by simpa using h) s
theorem sT_ok {g : FuncId} {q : ByteArray → Prop} {f : ByteArray → Bool} (h : ∀ s, q s → FnO Try.prog g [.lit (.string s)] (.ret (.lit (.bool (f s))))) : ∀ xs p d, sT q f xs = some (p, d) → p → FnO Try.prog g xs (.ret d) ∧ D.belL 0 xs = true ∧ D.bel 0 d = true :=
  ctr_ok fun c hq => ⟨h c hq, by simp, by simp⟩

theorem empty_sB (s : ByteArray) : s = ⟨#[]⟩ ↔ sB s = [] := by
  constructor
  · rintro rfl; rfl
  · intro h
    cases s with
    | mk d => simp only [sB] at h; have : d = #[] := Array.toList_eq_nil_iff.1 h; rw [this]
theorem nameB_first {s : ByteArray} (h : ¬ s = ⟨#[]⟩) : ∃ h0 : 0 < (sB s).length, nameB s = (startC (sB s)[0].toNat && (!wordB s && (sB s).all fun b => partC b.toNat)) := by
  have h1 : sB s ≠ [] := fun q => h ((empty_sB s).2 q)
  have h0 : 0 < (sB s).length := List.length_pos_iff.2 h1
  refine ⟨h0, ?_⟩
  unfold nameB
  rw [List.getD_eq_getElem?_getD, List.getElem?_eq_getElem h0, Option.getD_some]
theorem all_not {l : List UInt8} {f : UInt8 → Bool} {i : Nat} (h : i < l.length) (hf : f l[i] = false) : l.all f = false := by
  rw [List.all_eq_false]
  exact ⟨l[i], List.getElem_mem h, by simp [hf]⟩
theorem all_yes {l : List UInt8} {f : UInt8 → Bool} (hf : ∀ i (h : i < l.length), f l[i] = true) : l.all f = true := by
  rw [List.all_eq_true]
  intro x hx
  obtain ⟨j, hj, rfl⟩ := List.mem_iff_getElem.1 hx
  exact hf j hj

set_option maxHeartbeats 1000000 in
set_option maxRecDepth 10000 in
theorem name_ok (s : ByteArray) (hs : s.size ≤ 1000000) : FnO Try.prog 56 [.lit (.string s)] (.ret (.lit (.bool (nameB s)))) := by
  have ht := tbC_ok (P := Try.prog) (u8T_ok start_ok) (tbC_ok (u8T_ok (f := partC) part_ok) (tbC_ok (sT_ok (q := fun _ => True) fun s _ => word_ok s) (tb0_ok _)))
  refine fnO_wp ht fol Try.func56 rfl (by kernel_rfl) (by simp [Try.ntmps56]) (by kernel_rfl) fun I => ?_
  have hl : (sB s).length = s.size := by simp [sB]
  by_cases he : s = ⟨#[]⟩
  · subst he
    simp -implicitDefEqProofs [Try.ntmps56, u8T_eq, sT_eq, sB]
    exact seals_bool rfl
  · obtain ⟨h0, hn⟩ := nameB_first he
    cases h1 : startC (((sB s)[0].toNat : Nat) : Int) with
    | false =>
      simp -implicitDefEqProofs [Try.ntmps56, u8T_eq, sT_eq, he, h0, h1]
      exact seals_bool (by rw [hn, h1]; rfl)
    | true =>
      cases h2 : wordB s with
      | true =>
        simp -implicitDefEqProofs [Try.ntmps56, u8T_eq, sT_eq, he, h0, h1, h2]
        exact seals_bool (by rw [hn, h1, h2]; rfl)
      | false =>
        simp -implicitDefEqProofs [Try.ntmps56, u8T_eq, sT_eq, he, h0, h1, h2]
        refine w_loop (fun i : { i : Nat // i ≤ (sB s).length ∧ ∀ j (h : j < (sB s).length), j < i → partC (sB s)[j].toNat = true } => S.mk 27 [(0, .lit (.string s)), (17, .lit (.int .i64 (sB s).length)), (18, .lit (.int .i64 i.1))] [] 0 [] none []) (fun i => (sB s).length - i.1) ⟨0, Nat.zero_le _, fun j _ h => by omega⟩ (le_of [] (by simp)) fun ⟨i, hi, hall⟩ => wp_ok ht fol _ _ _ (by kernel_rfl) ?_
        have hw : IntKind.i64.wrap ((i : Int) + 1) = (i : Int) + 1 := wrap64 (by omega) (by omega)
        by_cases hil : i < (sB s).length
        · simp -implicitDefEqProofs [hil, hw, u8T_eq]
          refine ⟨fun h => seals_bool ?_, fun h => ⟨i + 1, le_of [] (by simp), ⟨by omega, fun j hj hlt => ?_⟩, by omega⟩⟩
          · rw [hn, all_not (f := fun b => partC b.toNat) hil h]
            simp
          · by_cases h2 : j = i
            · subst h2; exact h
            · exact hall j hj (by omega)
        · have : i = (sB s).length := by omega
          subst this
          simp -implicitDefEqProofs
          refine seals_bool ?_
          rw [hn, h1, h2, all_yes (f := fun b => partC b.toNat) fun j hj => hall j hj hj]
          rfl
set_option maxHeartbeats 1000000 in
set_option maxRecDepth 10000 in
theorem rname_ok (s : ByteArray) (hs : s.size ≤ 1000000) : FnO Try.prog 64 [.lit (.string s)] (.ret (.lit (.bool (nameB s)))) := by
  have ht := tbC_ok (P := Try.prog) (u8T_ok rstart_ok) (tbC_ok (u8T_ok (f := partC) rpart_ok) (tbC_ok (sT_ok (q := fun _ => True) fun s _ => rword_ok s) (tb0_ok _)))
  refine fnO_wp ht fol Try.func64 rfl (by kernel_rfl) (by simp [Try.ntmps64]) (by kernel_rfl) fun I => ?_
  have hl : (sB s).length = s.size := by simp [sB]
  by_cases he : s = ⟨#[]⟩
  · subst he
    simp -implicitDefEqProofs [Try.ntmps64, u8T_eq, sT_eq, sB]
    exact seals_bool rfl
  · obtain ⟨h0, hn⟩ := nameB_first he
    cases h1 : startC (((sB s)[0].toNat : Nat) : Int) with
    | false =>
      simp -implicitDefEqProofs [Try.ntmps64, u8T_eq, sT_eq, he, h0, h1]
      exact seals_bool (by rw [hn, h1]; rfl)
    | true =>
      cases h2 : wordB s with
      | true =>
        simp -implicitDefEqProofs [Try.ntmps64, u8T_eq, sT_eq, he, h0, h1, h2]
        exact seals_bool (by rw [hn, h1, h2]; rfl)
      | false =>
        simp -implicitDefEqProofs [Try.ntmps64, u8T_eq, sT_eq, he, h0, h1, h2]
        refine w_loop (fun i : { i : Nat // i ≤ (sB s).length ∧ ∀ j (h : j < (sB s).length), j < i → partC (sB s)[j].toNat = true } => S.mk 27 [(0, .lit (.string s)), (3, .lit (.int .i64 i.1))] [] 0 [] none []) (fun i => (sB s).length - i.1) ⟨0, Nat.zero_le _, fun j _ h => by omega⟩ (le_of [] (by simp)) fun ⟨i, hi, hall⟩ => wp_ok ht fol _ _ _ (by kernel_rfl) ?_
        have hw : IntKind.i64.wrap ((i : Int) + 1) = (i : Int) + 1 := wrap64 (by omega) (by omega)
        by_cases hil : i < (sB s).length
        · simp -implicitDefEqProofs [hil, hw, u8T_eq]
          refine ⟨fun h => seals_bool ?_, fun h => ⟨i + 1, le_of [] (by simp), ⟨by omega, fun j hj hlt => ?_⟩, by omega⟩⟩
          · rw [hn, all_not (f := fun b => partC b.toNat) hil h]
            simp
          · by_cases h2 : j = i
            · subst h2; exact h
            · exact hall j hj (by omega)
        · have : i = (sB s).length := by omega
          subst this
          simp -implicitDefEqProofs
          refine seals_bool ?_
          rw [hn, h1, h2, all_yes (f := fun b => partC b.toNat) fun j hj => hall j hj hj]
          rfl
end Go.Proofs.Ythlebppdhipanaa
