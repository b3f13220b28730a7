/-
  strings.Join: the library's contract, at this program's numbers.
-/
import Derived.Test.YthlebppdhipanaaSyU
import Derived.Shelf.Strings.OnBuilder
import Derived.Test.YthlebppdhipanaaProg
import Derived.KernelRfl
set_option linter.all false
namespace Go.Proofs.Ythlebppdhipanaa
open Go.Shelf

def rho : Ren := ⟨fun | 156 => 75 | 165 => 102 | 166 => 103 | 169 => 104 | 240 => 132 | 241 => 133 | 276 => 141 | 277 => 142 | n => n,
  fun | 31 => 22 | 37 => 102 | 70 => 101 | 72 => 104 | 75 => 107 | 80 => 110 | 76 => 108 | 127 => 134 | 164 => 141 | n => n, fun n => n⟩

theorem joinLays : Lays.n156 Try.prog rho := by
  constructor
  all_goals first | kernel_rfl | (intro w; kernel_rfl)
theorem joinExtra : Builder.Extra Try.prog rho := by
  refine { sizeBuilder := ?_, liesBuilder := ?_, t5 := ?_, a5 := ?_, z5 := ?_, v5 := ?_, infoByte := ?_, cellsByte := ?_, sizeByte := ?_, neB5 := ?_ }
  all_goals first | kernel_rfl | (intro w; kernel_rfl) | decide
end Go.Proofs.Ythlebppdhipanaa
namespace Go.Proofs.Ythlebppdhipanaa
open Go.Shelf Go.Ev
open Go.Aw (litOk)

/-- What strings.Join tells. -/
def joinB (xs : List ByteArray) (sep : ByteArray) : ByteArray := ⟨(Lib.join (xs.map (·.data.toList)) sep.data.toList).toArray⟩

theorem join_ok (f : Bool) (xs : List ByteArray) (sep : ByteArray) (hN : xs.length ≤ 140737488355328) (hlen : (joinB xs sep).size ≤ 140737488355328) :
    FnO Try.prog 75 [.sq f 1 (strsD xs), .lit (.string sep)] (.ret (.lit (.string (joinB xs sep)))) := by
  refine .inl ⟨by kernel_rfl, fun fz w vs hi hvs => ?_⟩
  obtain ⟨v0, us, rfl, h0, h1⟩ := argsOk_cons hvs
  obtain ⟨v1, us, rfl, hs1, h2⟩ := argsOk_cons h1
  have : us = #[] := Array.eq_empty_of_size_eq_zero (by simpa using h2.1)
  subst this
  rw [hs1.litE]
  have hl : litOk (.string (joinB xs sep)) := by
    show _ ≤ _
    exact Nat.le_trans hlen (by decide)
  rcases strs_cells hi h0 with ⟨a, rfl, rfl⟩ | ⟨b, off, k, rfl, hk, hb, hc⟩
  · refine (Any.strings_Join_none joinLays joinExtra a 0 sep w).mono ?_
    rintro e w' ⟨rfl, rfl⟩
    obtain ⟨g1, g2⟩ := post_below hi (RowKit.Below.refl _ _)
    exact ⟨fz, ⟨_, rfl, .lit _ hl⟩, g1, g2⟩
  · refine (Any.strings_Join joinLays joinExtra b off k xs sep w hc hb hN hk (by simpa [joinB, ByteArray.size] using hlen)).mono ?_
    rintro e w' ⟨rfl, hb⟩
    obtain ⟨g1, g2⟩ := post_below hi hb
    exact ⟨fz, ⟨_, rfl, .lit _ hl⟩, g1, g2⟩
end Go.Proofs.Ythlebppdhipanaa

/-
  Shapes as data; what types are; the parts of a shape, told one by one.
-/
namespace Go.Proofs.Ythlebppdhipanaa
open Go.Ev
open Go.Aw (tiOf fieldsOf)
@[simp] theorem ti3 : tiOf Try.prog 3 = some ⟨1, 8, (.int .i64), [(.zn .i64)]⟩ := by kernel_rfl
@[simp] theorem ti4 : tiOf Try.prog 4 = some ⟨1, 1, .bool, [.zb]⟩ := by kernel_rfl
@[simp] theorem ti5 : tiOf Try.prog 5 = some ⟨1, 1, (.int .u8), [(.zn .u8)]⟩ := by kernel_rfl
@[simp] theorem ti9 : tiOf Try.prog 9 = some ⟨1, 16, .str, [.zs]⟩ := by kernel_rfl
@[simp] theorem ti22 : tiOf Try.prog 22 = some ⟨1, 24, (.sl 9), [.zl]⟩ := by kernel_rfl
@[simp] theorem ti23 : tiOf Try.prog 23 = some ⟨1, 24, (.sl 25), [.zl]⟩ := by kernel_rfl
@[simp] theorem ti25 : tiOf Try.prog 25 = some ⟨3, 56, (.st [(0, 3), (1, 22), (2, 23)]), [(.zn .i64), .zl, .zl]⟩ := by kernel_rfl
@[simp] theorem fo25_0 : fieldsOf Try.prog 25 0 = some ((0, ⟨1, 8, (.int .i64), [(.zn .i64)]⟩)) := by kernel_rfl
@[simp] theorem fo25_1 : fieldsOf Try.prog 25 1 = some ((1, ⟨1, 24, (.sl 9), [.zl]⟩)) := by kernel_rfl
@[simp] theorem fo25_2 : fieldsOf Try.prog 25 2 = some ((2, ⟨1, 24, (.sl 25), [.zl]⟩)) := by kernel_rfl
@[simp] theorem pl25 : Go.Aw.plOf Try.prog 25 = some ([(0, 1), (1, 1), (2, 1)]) := by kernel_rfl
@[simp] theorem ti26 : tiOf Try.prog 26 = some ⟨1, 8, .oth, [.zf]⟩ := by kernel_rfl
@[simp] theorem ti65 : tiOf Try.prog 65 = some ⟨1, 8, .oth, [.zf]⟩ := by kernel_rfl
@[simp] theorem ti96 : tiOf Try.prog 96 = some ⟨1, 8, .oth, [.zf]⟩ := by kernel_rfl


theorem fol : Try.prog.follows .mixedOrders = true := by kernel_rfl

inductive Sh where
  | mk (kind : Int) (names : List ByteArray) (kids : List Sh)

mutual
def rowS : Sh → List D
  | .mk k ns l => [.lit (.int .i64 k), .sq false 1 (strsD ns), .sq false 3 (rowsS l)]
def rowsS : List Sh → List (List D)
  | [] => []
  | n :: r => rowS n :: rowsS r
end

theorem strsD_inj : ∀ (a b : List ByteArray), strsD a = strsD b → a = b
  | [], [], _ => rfl
  | [], _ :: _, h => by simp [strsD] at h
  | _ :: _, [], h => by simp [strsD] at h
  | x :: r, y :: q, h => by
    simp only [strsD, List.map_cons, List.cons.injEq, D.lit.injEq, Value.string.injEq, and_true] at h
    rw [h.1, strsD_inj r q h.2]
@[simp] theorem strsD_length (l : List ByteArray) : (strsD l).length = l.length := by simp [strsD]
@[simp] theorem strsD_bel : ∀ l : List ByteArray, D.belLL 0 (strsD l) = true
  | [] => by simp [strsD]
  | n :: r => by have := strsD_bel r; simp only [strsD] at this ⊢; simp [this]
@[simp] theorem strsD_getElem (l : List ByteArray) (i : Nat) (h : i < (strsD l).length) : (strsD l)[i] = [.lit (.string (l[i]'(by simpa using h)))] := by simp [strsD]
theorem strsD_rows (l : List ByteArray) : ∀ r ∈ strsD l, r.length = 1 := by
  intro r hr
  simp only [strsD, List.mem_map] at hr
  obtain ⟨_, _, rfl⟩ := hr
  rfl

mutual
theorem rowS_inj : ∀ (a b : Sh), rowS a = rowS b → a = b
  | .mk k n l, .mk k' n' l', h => by
    simp only [rowS, List.cons.injEq, D.lit.injEq, Value.int.injEq, D.sq.injEq, true_and, and_true] at h
    obtain ⟨rfl, h1, h⟩ := h
    rw [rowsS_inj l l' h, strsD_inj n n' h1]
theorem rowsS_inj : ∀ (a b : List Sh), rowsS a = rowsS b → a = b
  | [], [], _ => rfl
  | [], _ :: _, h => by simp [rowsS] at h
  | _ :: _, [], h => by simp [rowsS] at h
  | x :: r, y :: q, h => by
    simp only [rowsS, List.cons.injEq] at h
    rw [rowS_inj x y h.1, rowsS_inj r q h.2]
end

mutual
theorem rowS_bel : ∀ n : Sh, D.belL 0 (rowS n) = true
  | .mk k n l => by simp [rowS, rowsS_bel l]
theorem rowsS_bel : ∀ l : List Sh, D.belLL 0 (rowsS l) = true
  | [] => by simp [rowsS]
  | n :: r => by simp [rowsS, rowS_bel n, rowsS_bel r]
end
attribute [simp] rowS_bel rowsS_bel
@[simp] theorem rowS_belU (n : Nat) (x : Sh) : D.belL n (rowS x) = true := belL_up n _ (rowS_bel x)
@[simp] theorem rowS_ren (f : Nat → Nat) (n : Sh) : D.renL f (rowS n) = rowS n := renL_free f _ (rowS_bel n)
@[simp] theorem rowS_sub (l : Nat) (X : Nat → D) : ∀ n : Sh, D.subL l X (rowS n) = rowS n
  | .mk k n l => by simp [rowS]
@[simp] theorem rowS_length : ∀ n : Sh, (rowS n).length = 3
  | .mk k n l => by simp [rowS]
@[simp] theorem rowsS_length : ∀ l : List Sh, (rowsS l).length = l.length
  | [] => rfl
  | n :: r => by simp [rowsS, rowsS_length r]
theorem rowsS_map : ∀ l : List Sh, rowsS l = l.map rowS
  | [] => rfl
  | n :: r => by simp [rowsS, rowsS_map r]
@[simp] theorem rowsS_getElem (l : List Sh) (i : Nat) (h : i < (rowsS l).length) : (rowsS l)[i] = rowS (l[i]'(by simpa using h)) := by
  simp [rowsS_map]
@[simp] theorem rowS_take (n : Sh) : (rowS n).take 3 = rowS n := List.take_of_length_le (by simp)
theorem rowsS_rows (l : List Sh) : ∀ r ∈ rowsS l, r.length = 3 := by
  intro r hr
  rw [rowsS_map, List.mem_map] at hr
  obtain ⟨n, _, rfl⟩ := hr
  simp
def Sh.kind : Sh → Int | .mk k _ _ => k
def Sh.names : Sh → List ByteArray | .mk _ n _ => n
def Sh.kids : Sh → List Sh | .mk _ _ l => l
@[simp] theorem rowS_0 : ∀ n : Sh, (rowS n)[0]'(by simp) = .lit (.int .i64 n.kind) | .mk k n l => rfl
@[simp] theorem rowS_1 : ∀ n : Sh, (rowS n)[1]'(by simp) = .sq false 1 (strsD n.names) | .mk k n l => rfl
@[simp] theorem rowS_2 : ∀ n : Sh, (rowS n)[2]'(by simp) = .sq false 3 (rowsS n.kids) | .mk k n l => rfl

/-! ### All parts -/
mutual
def partsL : Sh → List Sh
  | .mk k n l => .mk k n l :: partsLs l
def partsLs : List Sh → List Sh
  | [] => []
  | n :: r => partsL n ++ partsLs r
end
theorem partsLs_append : ∀ (a b : List Sh), partsLs (a ++ b) = partsLs a ++ partsLs b
  | [], b => by simp [partsLs]
  | x :: a, b => by simp [partsLs, partsLs_append a b]
theorem partsLs_split (l : List Sh) (i : Nat) (h : i < l.length) : partsLs l = partsLs (l.take i) ++ (partsL l[i] ++ partsLs (l.drop (i + 1))) := by
  conv => lhs; rw [← List.take_append_drop i l, List.drop_eq_getElem_cons h]
  rw [partsLs_append]
  rfl
theorem partsLs_take (l : List Sh) (i : Nat) (h : i < l.length) : (partsLs (l.take (i + 1))).length = (partsLs (l.take i)).length + (partsL l[i]).length := by
  rw [List.take_succ_eq_append_getElem h, partsLs_append, List.length_append]
  simp [partsLs]

def walkF (y : Value) (by_ bw : Nat) (l : List Sh) (k : Nat) (i : Nat) : S :=
  { n := 23, tm := [(1, .ps (some by_) [.con y] 0), (2, .ps (some bw) [.fn (.func 125) [] [.ps (some by_) [.con y] 0, .con (.pointer (some ⟨bw, 0, none⟩))]] 0), (12, .sq false 3 (rowsS l)), (13, .lit (.int .i64 l.length)), (14, .lit (.int .i64 i))],
    hp := [], nx := 0, df := [], g := some (k + 1 + (partsLs (l.take i)).length), ex := [] }

set_option maxRecDepth 10000 in
theorem walk_ok (y : Value) (by_ bw : Nat) : ∀ (n : Sh) (I : Gh) (xs : List (List D)), YieldOk Try.prog I y xs → ∀ k : Nat, (∀ i x, (partsL n)[i]? = some x → xs[k + i]? = some [.agg (rowS x)]) →
    FnG Try.prog I 125 [.agg (rowS n), .ps (some by_) [.con y] 0, .ps (some bw) [.fn (.func 125) [] [.ps (some by_) [.con y] 0, .con (.pointer (some ⟨bw, 0, none⟩))]] 0] (some k)
      (fun d g' => (d = .lit (.bool true) ∧ g' = some (k + (partsL n).length)) ∨ (d = .lit (.bool false) ∧ g' = none))
  | .mk k0 ns l, I, xs, hy, k, hxs => by
    refine fnG_wp (tb0_ok _) fol Try.func125 rfl (by kernel_rfl) (by simp [Try.ntmps125]) (by kernel_rfl) fun I' hI => ?_
    simp only [rowS]
    simp -implicitDefEqProofs [Try.ntmps125]
    refine callS_yield (xs := xs) (k := k) (fun _ => trivial) (fun _ => hy.fr hI) (fun _ => rfl) (fun _ => ?_) (fun _ => by simp) (fun _ t0 => ?_) (fun h => by cases h)
    · have := hxs 0 (.mk k0 ns l) (by simp [partsL])
      simpa [rowS] using this
    cases t0 with
    | false => simp -implicitDefEqProofs
    | true =>
      simp -implicitDefEqProofs
      refine w_len 12 rfl fun hlen => ?_
      refine w_loop (fun i : { i : Nat // i ≤ l.length } => walkF y by_ bw l k i.1) (fun i => l.length - i.1) ⟨0, Nat.zero_le _⟩ (le_of [] (by simp [walkF, partsLs])) fun ⟨i, hi⟩ => wp_ok (tb0_ok _) fol _ _ _ (by kernel_rfl) ?_
      rw [rowsS_length] at hlen
      by_cases hil : i < l.length
      · simp -implicitDefEqProofs [walkF, hil]
        refine callS_fnG (KG := fun d g' => (d = .lit (.bool true) ∧ g' = some (k + 1 + (partsLs (l.take i)).length + (partsL l[i]).length)) ∨ (d = .lit (.bool false) ∧ g' = none)) (fun _ => trivial)
          (fun _ => walk_ok y by_ bw l[i] I' xs (hy.fr hI) (k + 1 + (partsLs (l.take i)).length) fun j x hj => ?_) (by simp)
          (fun M w a zs hr vs h => args_step h (fun _ h => h) fun us h => args_step h (fun _ h => h) fun us h => args_step h (fun v hv => con_ps (hr.t 2 _ rfl) hv) fun us h => h) (fun _ d g' hd hk => ?_) (fun h => by cases h)
        · rw [Nat.add_assoc, Nat.add_assoc]
          refine hxs (1 + ((partsLs (l.take i)).length + j)) x ?_
          rw [partsL, Nat.add_comm 1, List.getElem?_cons_succ, partsLs_split l i hil, List.getElem?_append_right (by omega), Nat.add_sub_cancel_left, List.getElem?_append_left (List.getElem?_eq_some_iff.1 hj).1]
          exact hj
        · rcases hk with ⟨rfl, rfl⟩ | ⟨rfl, rfl⟩
          · simp -implicitDefEqProofs [wrap64 (x := (i : Int) + 1) (by omega) (by omega)]
            refine ⟨i + 1, le_of [] ?_, by omega, by omega⟩
            simp [partsLs_take l i hil]
            omega
          · simp -implicitDefEqProofs
      · have : i = l.length := by omega
        subst this
        simp -implicitDefEqProofs [walkF]
        simp only [partsL, List.length_cons]
        omega
termination_by n => SizeOf.sizeOf n
decreasing_by
  have := List.sizeOf_lt_of_mem (List.getElem_mem hil)
  simp
  omega

theorem parts_ok (n : Sh) : FnO Try.prog 94 [.agg (rowS n)] (.ret (.fn (.func 124) [] [.ps none (rowS n) 0])) := by
  refine fnO_wp (tb0_ok _) fol Try.func94 rfl (by kernel_rfl) (by simp [Try.ntmps94]) (by kernel_rfl) fun I => ?_
  simp -implicitDefEqProofs [Try.ntmps94]
  repeat' first | exact .same _ (by simp) | exact sealsL_same (by simp) | refine seals_fn ?_ ?_ | refine sealsL_cons ?_ ?_ | refine seals_pt rfl ?_

set_option maxRecDepth 10000 in
theorem parts1_ok (n : Sh) : IterOk Try.prog 124 [] [.ps none (rowS n) 0] ((partsL n).map fun x => [.agg (rowS x)]) := by
  intro I y hy
  refine fnG_of Try.func124 rfl (by kernel_rfl) (by simp [Try.ntmps124]) fun own f0 w0 => ?_
  have hy' := hy.frame own f0 w0
  generalize I.frame own f0 w0 = I' at hy'
  refine w_seq (wp_ok (tb0_ok _) fol _ _ _ (by kernel_rfl) ?_)
  simp -implicitDefEqProofs [Try.ntmps124]
  refine w_frz 2 0 rfl rfl fun b1 => ?_
  refine w_seq (wp_ok (tb0_ok _) fol _ _ _ (by kernel_rfl) ?_)
  simp -implicitDefEqProofs
  refine w_seq (wp_ok (tb0_ok _) fol _ _ _ (by kernel_rfl) ?_)
  simp -implicitDefEqProofs
  refine w_frz 3 1 rfl rfl fun b2 => wp_ok (tb0_ok _) fol _ _ _ (by kernel_rfl) ?_
  simp -implicitDefEqProofs
  refine callS_fnG (KG := fun d g' => (d = .lit (.bool true) ∧ g' = some (0 + (partsL n).length)) ∨ (d = .lit (.bool false) ∧ g' = none)) (fun _ => trivial)
    (fun _ => walk_ok y b1 b2 n I' _ hy' 0 fun j x hj => by simp [hj]) (by simp)
    (fun M w a zs hr vs h => args_step h (fun _ h => h) fun us h => args_step h (fun _ h => h) fun us h => args_step h (fun v hv => con_ps (hr.t 3 _ rfl) hv) fun us h => h) (fun _ d g' hd hk => ?_) (fun h => by cases h)
  rcases hk with ⟨rfl, rfl⟩ | ⟨rfl, rfl⟩
  · simp -implicitDefEqProofs
  · simp -implicitDefEqProofs
end Go.Proofs.Ythlebppdhipanaa

/-
  Has a shape few parts?
-/
namespace Go.Proofs.Ythlebppdhipanaa
open Go.Ev
open Go.Aw (tiOf fieldsOf)

noncomputable def paT : List D → Option (Prop × D) := ctr (fun n : Sh => [.agg (rowS n)]) (fun _ => True) (fun n => .fn (.func 124) [] [.ps none (rowS n) 0])
theorem paT_eq (n : Sh) : paT [.agg (rowS n)] = some (True, .fn (.func 124) [] [.ps none (rowS n) 0]) := ctr_enc (fun a b h => by simp at h; exact rowS_inj _ _ h) n

def fewF (k : Nat) : S := S.mk 11 [(2, .pt 0 0), (3, .pt 1 0)] [(0, .cells 4 none [.lit (.bool false)]), (1, .cells 3 none [.lit (.int .i64 k)]), (2, .dfr)] 3 [2] none []

/-- No frame stands so. -/
def badS (n : Nat) : S := S.mk n [(0, .lit (.tuple #[]))] [] 0 [] none []
theorem badS_bad (n : Nat) : (badS n).Bad := fun zs M w a h => by
  have := h.t 0 (.lit (.tuple #[])) rfl
  generalize a.tmps.getD 0 undef = u at this
  cases this with
  | lit _ hv => exact hv

def fewG (k : Nat) : S := if k ≤ 512 then fewF k else badS 11

set_option maxRecDepth 10000 in
theorem few_ok (n : Sh) (hl : (partsL n).length ≤ 1000000) : FnO Try.prog 65 [.agg (rowS n)] (.ret (.lit (.bool (decide ((partsL n).length ≤ 512))))) := by
  have ht := tbC_ok (P := Try.prog) (g := 94) (f := paT) (ctr_ok fun n _ => ⟨parts_ok n, by simp, by simp⟩) (tb0_ok _)
  refine fnO_wp ht fol Try.func65 rfl (by kernel_rfl) (by simp [Try.ntmps65]) (by kernel_rfl) fun I => ?_
  simp -implicitDefEqProofs [Try.ntmps65, paT_eq]
  refine w_rangeB fewG rfl (by simp) (parts1_ok n) (le_of [1, 2, 3] (by simp [fewG, fewF])) (by simp) (fun k t ht => by simp at ht; subst ht; simp only [fewG]; split <;> simp [fewF, badS]) (fun k => by simp only [fewG]; split <;> simp [fewF, badS]) (fun k l q h => ?_) (fun x hx => ?_) (fun k x hx I' hI => ?_) ?_
  · simp only [fewG] at h ⊢
    split at h
    · rename_i hk
      rw [if_pos hk]
      simp only [fewF, lk] at h ⊢
      repeat' (first | omega | (split at h))
      all_goals first | omega | cases h
    · simp [badS, lk] at h
  · simp only [List.mem_map] at hx
    obtain ⟨r, hr, rfl⟩ := hx
    simp
  · simp only [List.getElem?_map, Option.map_eq_some_iff] at hx
    obtain ⟨r, hr, rfl⟩ := hx
    have hk := (List.getElem?_eq_some_iff.1 hr).1
    by_cases hk5 : k ≤ 512
    · have hw : IntKind.i64.wrap ((k : Int) + 1) = (k : Int) + 1 := wrap64 (by omega) (by omega)
      refine wp_ok ht fol _ _ _ (by kernel_rfl) ?_
      simp -implicitDefEqProofs [fewG, fewF, hk5]
      intro I2 hI2
      refine wp_ok ht fol _ _ _ (by kernel_rfl) ?_
      simp -implicitDefEqProofs [hw]
      refine ⟨fun h => ?_, fun h => ?_⟩
      · have : ¬ (partsL n).length ≤ 512 := by omega
        simp only [this, decide_false]
        exact .same _ (by simp)
      · have hk6 : k ≤ 511 := by omega
        rw [if_pos hk6]
        exact le_of [0, 1, 2] (by simp)
    · intro r M w a zs hrl hr
      exfalso
      have := hr.t 0 (.lit (.tuple #[])) (by simp [fewG, hk5, badS, lk, up])
      generalize a.tmps.getD 0 undef = u at this
      cases this with
      | lit _ hv => exact hv
  · by_cases hk : (partsL n).length ≤ 512
    · refine .inr ?_
      simp -implicitDefEqProofs [fewG, fewF, hk]
      exact .same _ (by simp)
    · refine .inl ?_
      simp only [fewG, List.length_map, if_neg hk]
      exact badS_bad 11
end Go.Proofs.Ythlebppdhipanaa
