/-
  slices.IndexFunc and slices.ContainsFunc of shapes and of texts.
-/
import Derived.Test.YthlebppdhipanaaShG
set_option linter.all false
namespace Go.Proofs.Ythlebppdhipanaa
open Go.Ev
open Go.Aw (tiOf fieldsOf sB)

/-- The place of the first one that a function takes; else -1. -/
def idxI {α : Type} (f : α → Bool) (l : List α) : Int := match l.findIdx? f with
  | some i => (i : Int)
  | none => -1
theorem idxI_some {α : Type} {f : α → Bool} {l : List α} {i : Nat} (h : i < l.length) (hf : f l[i] = true) (hb : ∀ j (h : j < l.length), j < i → f l[j] = false) : idxI f l = (i : Int) := by
  have : l.findIdx? f = some i := by
    rw [List.findIdx?_eq_some_iff_getElem]
    exact ⟨h, hf, fun j hj => by simpa using hb j (by omega) hj⟩
  simp [idxI, this]
theorem idxI_none {α : Type} {f : α → Bool} {l : List α} (hb : ∀ j (h : j < l.length), f l[j] = false) : idxI f l = -1 := by
  have : l.findIdx? f = none := by
    rw [List.findIdx?_eq_none_iff]
    intro x hx
    obtain ⟨j, hj, rfl⟩ := List.mem_iff_getElem.1 hx
    exact hb j hj
  simp [idxI, this]
theorem idxI_any {α : Type} (f : α → Bool) (l : List α) : decide (0 ≤ idxI f l) = l.any f := by
  unfold idxI
  cases h : l.findIdx? f with
  | none =>
    rw [List.findIdx?_eq_none_iff] at h
    have : l.any f = false := by
      rw [List.any_eq_false]
      intro x hx; simp [h x hx]
    rw [this]; rfl
  | some i =>
    rw [List.findIdx?_eq_some_iff_getElem] at h
    obtain ⟨h1, h2, _⟩ := h
    have : l.any f = true := by
      rw [List.any_eq_true]
      exact ⟨_, List.getElem_mem h1, h2⟩
    rw [this]
    simp

/-! ### Of shapes -/
def TakOk (gs : FuncId) (caps : List D) (q : Sh → Prop) (f : Sh → Bool) : Prop :=
  D.belL 0 caps = true ∧ ∀ n : Sh, q n → FnO Try.prog gs (.agg (rowS n) :: caps) (.ret (.lit (.bool (f n))))
noncomputable def tkT (caps : List D) (q : Sh → Prop) (f : Sh → Bool) : List D → Option (Prop × D) := ctr (fun n : Sh => .agg (rowS n) :: caps) q (fun n => .lit (.bool (f n)))
theorem tkT_eq (caps : List D) (q : Sh → Prop) (f : Sh → Bool) (n : Sh) : tkT caps q f (.agg (rowS n) :: caps) = some (q n, .lit (.bool (f n))) := ctr_enc (fun a b h => by simp at h; exact rowS_inj _ _ h) n
theorem tkT_ok {gs : FuncId} {caps : List D} {q : Sh → Prop} {f : Sh → Bool} (h : TakOk gs caps q f) : ∀ xs p d, tkT caps q f xs = some (p, d) → p → FnO Try.prog gs xs (.ret d) ∧ D.belL 0 xs = true ∧ D.bel 0 d = true :=
  ctr_ok fun n hn => ⟨h.2 n hn, by simp [h.1], by simp⟩

set_option maxHeartbeats 1000000 in
set_option maxRecDepth 10000 in
theorem index_ok {gs : FuncId} {caps : List D} {q : Sh → Prop} {f : Sh → Bool} (h : TakOk gs caps q f) (l : List Sh) (hl : l.length ≤ 1000000) (hq : ∀ n ∈ l, q n) :
    FnO Try.prog 72 [.sq false 3 (rowsS l), .fn (.func gs) [] caps] (.ret (.lit (.int .i64 (idxI f l)))) := by
  have ht := tbC_ok (P := Try.prog) (tkT_ok h) (tb0_ok _)
  refine fnO_wp ht fol Try.func72 rfl (by kernel_rfl) (by simp [Try.ntmps72]) (by kernel_rfl) fun I => ?_
  simp -implicitDefEqProofs [Try.ntmps72]
  refine w_loop (fun i : { i : Nat // i ≤ l.length ∧ ∀ j (h : j < l.length), j < i → f l[j] = false } => S.mk 19 [(0, .sq false 3 (rowsS l)), (1, .fn (.func gs) [] caps), (7, .lit (.int .i64 l.length)), (8, .lit (.int .i64 i.1))] [] 0 [] none []) (fun i => l.length - i.1) ⟨0, Nat.zero_le _, fun j _ h => by omega⟩ (le_of [] (by simp [h.1, belL_up, renL_free])) fun ⟨i, hi, hall⟩ => wp_ok ht fol _ _ _ (by kernel_rfl) ?_
  have hw2 : IntKind.i64.wrap ((i : Int) + 1) = (i : Int) + 1 := wrap64 (by omega) (by omega)
  by_cases hil : i < l.length
  · have hqi := hq l[i] (List.getElem_mem hil)
    simp -implicitDefEqProofs [hil, hw2, tkT_eq, hqi]
    refine ⟨fun h5 => ?_, fun h5 => ⟨i + 1, le_of [] (by simp [h.1, belL_up, renL_free]), ⟨by omega, fun j hj h6 => ?_⟩, by omega⟩⟩
    · rw [idxI_some hil h5 hall]
      exact .same _ (by simp)
    · by_cases h7 : j = i
      · subst h7; exact h5
      · exact hall j hj (by omega)
  · have : i = l.length := by omega
    subst this
    simp -implicitDefEqProofs
    rw [idxI_none fun j hj => hall j hj hj]
    exact .same _ (by simp)

noncomputable def ixT (gs : FuncId) (caps : List D) (q : Sh → Prop) (f : Sh → Bool) : List D → Option (Prop × D) := ctr (fun l : List Sh => [.sq false 3 (rowsS l), .fn (.func gs) [] caps]) (fun l => l.length ≤ 1000000 ∧ ∀ n ∈ l, q n) (fun l => .lit (.int .i64 (idxI f l)))
theorem ixT_eq (gs : FuncId) (caps : List D) (q : Sh → Prop) (f : Sh → Bool) (l : List Sh) : ixT gs caps q f [.sq false 3 (rowsS l), .fn (.func gs) [] caps] = some (l.length ≤ 1000000 ∧ ∀ n ∈ l, q n, .lit (.int .i64 (idxI f l))) := ctr_enc (fun a b h => by simp at h; exact rowsS_inj _ _ h) l

set_option maxRecDepth 10000 in
theorem contains_ok {gs : FuncId} {caps : List D} {q : Sh → Prop} {f : Sh → Bool} (h : TakOk gs caps q f) (l : List Sh) (hl : l.length ≤ 1000000) (hq : ∀ n ∈ l, q n) :
    FnO Try.prog 67 [.sq false 3 (rowsS l), .fn (.func gs) [] caps] (.ret (.lit (.bool (l.any f)))) := by
  have ht := tbC_ok (P := Try.prog) (g := 72) (f := ixT gs caps q f) (ctr_ok fun m hm => ⟨index_ok h m hm.1 hm.2, by simp [h.1], by simp⟩) (tb0_ok _)
  refine fnO_wp ht fol Try.func67 rfl (by kernel_rfl) (by simp [Try.ntmps67]) (by kernel_rfl) fun I => ?_
  simp -implicitDefEqProofs [Try.ntmps67, ixT_eq, hl]
  refine ⟨hq, ?_⟩
  rw [idxI_any]
  exact .same _ (by simp)

/-! ### Of texts -/
def TasOk (gs : FuncId) (caps : List D) (q : ByteArray → Prop) (f : ByteArray → Bool) : Prop :=
  D.belL 0 caps = true ∧ ∀ n : ByteArray, q n → FnO Try.prog gs (.lit (.string n) :: caps) (.ret (.lit (.bool (f n))))
noncomputable def tsuT (caps : List D) (q : ByteArray → Prop) (f : ByteArray → Bool) : List D → Option (Prop × D) := ctr (fun n : ByteArray => .lit (.string n) :: caps) q (fun n => .lit (.bool (f n)))
theorem tsuT_eq (caps : List D) (q : ByteArray → Prop) (f : ByteArray → Bool) (n : ByteArray) : tsuT caps q f (.lit (.string n) :: caps) = some (q n, .lit (.bool (f n))) := ctr_enc (fun a b h => by simpa using h) n
theorem tsuT_ok {gs : FuncId} {caps : List D} {q : ByteArray → Prop} {f : ByteArray → Bool} (h : TasOk gs caps q f) : ∀ xs p d, tsuT caps q f xs = some (p, d) → p → FnO Try.prog gs xs (.ret d) ∧ D.belL 0 xs = true ∧ D.bel 0 d = true :=
  ctr_ok fun n hn => ⟨h.2 n hn, by simp [h.1], by simp⟩

set_option maxHeartbeats 1000000 in
set_option maxRecDepth 10000 in
theorem indexS_ok {gs : FuncId} {caps : List D} {q : ByteArray → Prop} {f : ByteArray → Bool} (h : TasOk gs caps q f) (l : List ByteArray) (hl : l.length ≤ 1000000) (hq : ∀ n ∈ l, q n) :
    FnO Try.prog 126 [.sq false 1 (strsD l), .fn (.func gs) [] caps] (.ret (.lit (.int .i64 (idxI f l)))) := by
  have ht := tbC_ok (P := Try.prog) (tsuT_ok h) (tb0_ok _)
  refine fnO_wp ht fol Try.func126 rfl (by kernel_rfl) (by simp [Try.ntmps126]) (by kernel_rfl) fun I => ?_
  simp -implicitDefEqProofs [Try.ntmps126]
  refine w_loop (fun i : { i : Nat // i ≤ l.length ∧ ∀ j (h : j < l.length), j < i → f l[j] = false } => S.mk 19 [(0, .sq false 1 (strsD l)), (1, .fn (.func gs) [] caps), (7, .lit (.int .i64 l.length)), (8, .lit (.int .i64 i.1))] [] 0 [] none []) (fun i => l.length - i.1) ⟨0, Nat.zero_le _, fun j _ h => by omega⟩ (le_of [] (by simp [h.1, belL_up, renL_free])) fun ⟨i, hi, hall⟩ => wp_ok ht fol _ _ _ (by kernel_rfl) ?_
  have hw2 : IntKind.i64.wrap ((i : Int) + 1) = (i : Int) + 1 := wrap64 (by omega) (by omega)
  by_cases hil : i < l.length
  · have hqi := hq l[i] (List.getElem_mem hil)
    simp -implicitDefEqProofs [hil, hw2, tsuT_eq, hqi]
    refine ⟨fun h5 => ?_, fun h5 => ⟨i + 1, le_of [] (by simp [h.1, belL_up, renL_free]), ⟨by omega, fun j hj h6 => ?_⟩, by omega⟩⟩
    · rw [idxI_some hil h5 hall]
      exact .same _ (by simp)
    · by_cases h7 : j = i
      · subst h7; exact h5
      · exact hall j hj (by omega)
  · have : i = l.length := by omega
    subst this
    simp -implicitDefEqProofs
    rw [idxI_none fun j hj => hall j hj hj]
    exact .same _ (by simp)

noncomputable def ixsT (gs : FuncId) (caps : List D) (q : ByteArray → Prop) (f : ByteArray → Bool) : List D → Option (Prop × D) := ctr (fun l : List ByteArray => [.sq false 1 (strsD l), .fn (.func gs) [] caps]) (fun l => l.length ≤ 1000000 ∧ ∀ n ∈ l, q n) (fun l => .lit (.int .i64 (idxI f l)))
theorem ixsT_eq (gs : FuncId) (caps : List D) (q : ByteArray → Prop) (f : ByteArray → Bool) (l : List ByteArray) : ixsT gs caps q f [.sq false 1 (strsD l), .fn (.func gs) [] caps] = some (l.length ≤ 1000000 ∧ ∀ n ∈ l, q n, .lit (.int .i64 (idxI f l))) := ctr_enc (fun a b h => by simp at h; exact strsD_inj _ _ h) l

set_option maxRecDepth 10000 in
theorem containsS_ok {gs : FuncId} {caps : List D} {q : ByteArray → Prop} {f : ByteArray → Bool} (h : TasOk gs caps q f) (l : List ByteArray) (hl : l.length ≤ 1000000) (hq : ∀ n ∈ l, q n) :
    FnO Try.prog 96 [.sq false 1 (strsD l), .fn (.func gs) [] caps] (.ret (.lit (.bool (l.any f)))) := by
  have ht := tbC_ok (P := Try.prog) (g := 126) (f := ixsT gs caps q f) (ctr_ok fun m hm => ⟨indexS_ok h m hm.1 hm.2, by simp [h.1], by simp⟩) (tb0_ok _)
  refine fnO_wp ht fol Try.func96 rfl (by kernel_rfl) (by simp [Try.ntmps96]) (by kernel_rfl) fun I => ?_
  simp -implicitDefEqProofs [Try.ntmps96, ixsT_eq, hl]
  refine ⟨hq, ?_⟩
  rw [idxI_any]
  exact .same _ (by simp)
end Go.Proofs.Ythlebppdhipanaa
