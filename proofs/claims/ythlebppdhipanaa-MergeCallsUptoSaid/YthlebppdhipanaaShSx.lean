/-
  Numbers' digits, as they are reckoned.
-/
import Derived.Test.YthlebppdhipanaaShQ
import Derived.Test.YthlebppdhipanaaSyS
import Derived.Test.YthlebppdhipanaaSyY
set_option linter.all false
namespace Go.Proofs.Ythlebppdhipanaa
open Go.Ev
open Go.Aw (tiOf fieldsOf sB)
/-! ### Numbers -/
def exL : List (FuncId × XK) := []
theorem ex_ok : ∀ p ∈ exL, ExtOk Try.prog p.1 p.2 := by
  intro p hp
  simp [exL] at hp
noncomputable def cntC (n : Nat) : Bool := isD (.lit (.string (bA (decF 0 n)))) ((eng Try.prog (exT exL) (drawE Try.prog) 1000 60).1 131 [.lit (.int .i64 (n : Int))] { hp := .e, nx := 0 })
theorem cnt_all : ((List.range 10).all cntC) = true := by kernel_rfl
theorem count0_ok (n : Nat) (h : n < 10) : FnO Try.prog 131 [.lit (.int .i64 (n : Int))] (.ret (.lit (.string (bA (decF 0 n))))) :=
  fnO_of_engD (eng_sound (exT_ok exL ex_ok) 1000 60) (by kernel_rfl) (by simp) ((List.all_eq_true.1 cnt_all) n (List.mem_range.2 (by omega)))
noncomputable def cnT (q : Nat → Prop) (r : Nat → List UInt8) : List D → Option (Prop × D) := ctr (fun n : Nat => [.lit (.int .i64 (n : Int))]) q (fun n => .lit (.string (bA (r n))))
theorem cnT_eq (q : Nat → Prop) (r : Nat → List UInt8) (n : Nat) : cnT q r [.lit (.int .i64 (n : Int))] = some (q n, .lit (.string (bA (r n)))) := ctr_enc (fun a b h => by simp at h; omega) n
theorem decF_low (f n : Nat) (h : n < 10) : decF f n = decF 0 n := by
  cases f with
  | zero => rfl
  | succ f => simp [decF, h]
theorem decF_len : ∀ (f n : Nat), (decF f n).length ≤ f + 1
  | 0, n => by simp [decF]
  | f + 1, n => by
    have := decF_len f (n / 10)
    unfold decF
    split
    · simp
    · simp; omega
set_option maxHeartbeats 1000000 in
set_option maxRecDepth 10000 in
theorem countF_ok : ∀ (f n : Nat), f ≤ 10 → n < 10 ^ (f + 1) → FnO Try.prog 131 [.lit (.int .i64 (n : Int))] (.ret (.lit (.string (bA (decF f n)))))
  | 0, n, _, h => count0_ok n (by simpa using h)
  | f + 1, n, hf, h => by
    by_cases hn : n < 10
    · rw [decF_low _ _ hn]
      exact count0_ok n hn
    · obtain ⟨q, hq⟩ : ∃ q, q = n / 10 := ⟨_, rfl⟩
      obtain ⟨r, hr⟩ : ∃ r, r = n % 10 := ⟨_, rfl⟩
      have hq1 : q < 10 ^ (f + 1) := by rw [Nat.pow_succ] at h; omega
      have ht := tbC_ok (P := Try.prog) (g := 131) (f := cnT (fun m => m = q ∨ m = r) (decF f)) (ctr_ok fun m hm => ⟨by
          rcases hm with rfl | rfl
          · exact countF_ok f _ (by omega) hq1
          · rw [decF_low _ _ (by omega)]
            exact count0_ok _ (by omega), by simp, by simp⟩) (tb0_ok _)
      refine fnO_wx ht fol Try.func131 rfl (by kernel_rfl) (by simp [Try.ntmps131]) (by kernel_rfl) fun I => ?_
      have hbig : (10 : Nat) ^ (f + 1 + 1) ≤ 10 ^ 12 := Nat.pow_le_pow_right (by omega) (by omega)
      have e1 : IntKind.i64.wrap ((n : Int) / 10) = (q : Int) := by rw [wrap64 (by omega) (by omega)]; omega
      have e2 : (n : Int) % 10 = (r : Int) := by omega
      have e2' : (n : Int).tmod 10 = (r : Int) := by rw [Int.tmod_eq_emod_of_nonneg (by omega)]; exact e2
      have hn' : ¬ (n : Int) < 10 := by omega
      have l1 := decF_len f q
      have l2 := decF_len f r
      have e3 : bA (decF (f + 1) n) = ⟨(decF f q ++ decF f r).toArray⟩ := by
        rw [decF, if_neg hn, ← hq, ← hr, decF_low f r (by omega)]; rfl
      simp -implicitDefEqProofs [Try.ntmps131, e1, e2, e2', hn', cnT_eq]
      rw [e3]
      exact ⟨by omega, .same _ (by simp)⟩
theorem count_ok (n : Nat) (h : n ≤ 1000) : FnO Try.prog 131 [.lit (.int .i64 (n : Int))] (.ret (.lit (.string (decB n)))) := countF_ok 3 n (by omega) (by omega)
end Go.Proofs.Ythlebppdhipanaa

/-
  The pairs of two shapes of one kind, told one by one.
-/
namespace Go.Proofs.Ythlebppdhipanaa
open Go.Ev
open Go.Aw (tiOf fieldsOf sB)
@[simp] theorem ti79 : tiOf Try.prog 79 = some ⟨8, 136, (.st [(0, 9), (1, 25), (4, 25), (7, 4)]), [.zs, (.zn .i64), .zl, .zl, (.zn .i64), .zl, .zl, .zb]⟩ := by kernel_rfl
@[simp] theorem fo79_0 : fieldsOf Try.prog 79 0 = some ((0, ⟨1, 16, .str, [.zs]⟩)) := by kernel_rfl
@[simp] theorem fo79_1 : fieldsOf Try.prog 79 1 = some ((1, ⟨3, 56, (.st [(0, 3), (1, 22), (2, 23)]), [(.zn .i64), .zl, .zl]⟩)) := by kernel_rfl
@[simp] theorem fo79_2 : fieldsOf Try.prog 79 2 = some ((4, ⟨3, 56, (.st [(0, 3), (1, 22), (2, 23)]), [(.zn .i64), .zl, .zl]⟩)) := by kernel_rfl
@[simp] theorem fo79_3 : fieldsOf Try.prog 79 3 = some ((7, ⟨1, 1, .bool, [.zb]⟩)) := by kernel_rfl
@[simp] theorem pl79 : Go.Aw.plOf Try.prog 79 = some ([(0, 1), (1, 3), (4, 3), (7, 1)]) := by kernel_rfl
@[simp] theorem ti75 : tiOf Try.prog 75 = some ⟨1, 8, .oth, [.zf]⟩ := by kernel_rfl
@[simp] theorem ti131 : tiOf Try.prog 131 = some ⟨1, 8, .oth, [.zf]⟩ := by kernel_rfl
@[simp] theorem uk75 : ukOf Try.prog 75 = .fn := by kernel_rfl

/-! ### The place of a name -/
def idxN (ns : List ByteArray) (n : ByteArray) : Int := idxI (fun m => decide (m = n)) ns
theorem idxN_some {ns : List ByteArray} {n : ByteArray} {j : Nat} (h : idxO ns n = some j) : idxN ns n = (j : Int) := by
  unfold idxO at h; simp [idxN, idxI, h]
theorem idxN_none {ns : List ByteArray} {n : ByteArray} (h : idxO ns n = none) : idxN ns n = -1 := by
  unfold idxO at h; simp [idxN, idxI, h]
set_option maxHeartbeats 1000000 in
set_option maxRecDepth 10000 in
theorem indexT_ok (f : Bool) (ns : List ByteArray) (n : ByteArray) (hl : ns.length ≤ 1000000) : FnO Try.prog 129 [.sq f 1 (strsD ns), .lit (.string n)] (.ret (.lit (.int .i64 (idxN ns n)))) := by
  have ht := tb0_ok Try.prog
  refine fnO_wp ht fol Try.func129 rfl (by kernel_rfl) (by simp [Try.ntmps129]) (by kernel_rfl) fun I => ?_
  simp -implicitDefEqProofs [Try.ntmps129]
  refine w_loop (fun i : { i : Nat // i ≤ ns.length ∧ ∀ j (h : j < ns.length), j < i → ¬ ns[j] = n } => S.mk 19 [(0, .sq f 1 (strsD ns)), (1, .lit (.string n)), (7, .lit (.int .i64 ns.length)), (8, .lit (.int .i64 i.1))] [] 0 [] none []) (fun i => ns.length - i.1) ⟨0, Nat.zero_le _, fun j _ h => by omega⟩ (le_of [] (by simp)) fun ⟨i, hi, hall⟩ => wp_ok ht fol _ _ _ (by kernel_rfl) ?_
  have hw : IntKind.i64.wrap ((i : Int) + 1) = (i : Int) + 1 := wrap64 (by omega) (by omega)
  by_cases hil : i < ns.length
  · simp -implicitDefEqProofs [hil, hw]
    refine ⟨fun h => seals_int ?_, fun h => ⟨i + 1, le_of [] (by simp), ⟨by omega, fun j hj hlt => ?_⟩, by omega⟩⟩
    · exact (idxI_some hil (by simpa using h.symm) fun j hj hlt => by simpa using hall j hj hlt).symm
    · by_cases h7 : j = i
      · subst h7; exact fun q => h q.symm
      · exact hall j hj (by omega)
  · have : i = ns.length := by omega
    subst this
    simp -implicitDefEqProofs
    exact seals_int (idxI_none fun j hj => by simpa using hall j hj hj).symm
noncomputable def inT : List D → Option (Prop × D) := ctr (fun p : List ByteArray × ByteArray => [.sq false 1 (strsD p.1), .lit (.string p.2)]) (fun p => p.1.length ≤ 1000000) (fun p => .lit (.int .i64 (idxN p.1 p.2)))
theorem inT_eq (ns : List ByteArray) (n : ByteArray) : inT [.sq false 1 (strsD ns), .lit (.string n)] = some (ns.length ≤ 1000000, .lit (.int .i64 (idxN ns n))) := ctr_enc (fun a b h => by simp at h; exact Prod.ext (strsD_inj _ _ h.1) h.2) (ns, n)

set_option maxRecDepth 10000 in
theorem at_ok (a : Sh) (n : ByteArray) (hl : a.names.length ≤ 1000000) : FnO Try.prog 128 [.lit (.string n), .ps none (rowS a) 0] (.ret (.lit (.int .i64 (idxN a.names n)))) := by
  have ht := tbC_ok (P := Try.prog) (g := 129) (f := inT) (ctr_ok fun p hp => ⟨indexT_ok false p.1 p.2 hp, by simp, by simp⟩) (tb0_ok _)
  refine fnO_wp ht fol Try.func128 rfl (by kernel_rfl) (by simp [Try.ntmps128]) (by kernel_rfl) fun I => ?_
  simp -implicitDefEqProofs [Try.ntmps128, inT_eq, hl]
  exact seals_int rfl
noncomputable def atT (a : Sh) : List D → Option (Prop × D) := ctr (fun n : ByteArray => [.lit (.string n), .ps none (rowS a) 0]) (fun _ => True) (fun n => .lit (.int .i64 (idxN a.names n)))
theorem atT_eq (a : Sh) (n : ByteArray) : atT a [.lit (.string n), .ps none (rowS a) 0] = some (True, .lit (.int .i64 (idxN a.names n))) := ctr_enc (fun x y h => by simpa using h) n

@[simp] theorem rowS_drop6 (x : Sh) (r : List D) : (rowS x ++ r).drop 6 = r.drop 3 := by cases x; simp [rowS]
@[simp] theorem rowS_drop3 (x : Sh) (r : List D) : (rowS x ++ r).drop 3 = r := by cases x; simp [rowS]
@[simp] theorem rowS_take3 (x : Sh) (r : List D) : (rowS x ++ r).take 3 = rowS x := by cases x; simp [rowS]

/-! ### The pairs -/
def zrow : List D := [.lit (.int .i64 0), .lit (.slice none 0 0), .lit (.slice none 0 0)]
def rowP (p : Pr) : List D := .lit (.string p.w) :: ((bif p.lack then zrow else rowS p.a) ++ ((bif p.lack then zrow else rowS p.b) ++ [.lit (.bool p.lack)]))
theorem rowP_lack (n : ByteArray) (a b : Sh) : rowP ⟨n, a, b, true⟩ = .lit (.string n) :: (zrow ++ (zrow ++ [.lit (.bool true)])) := rfl
theorem rowP_have (n : ByteArray) (a b : Sh) : rowP ⟨n, a, b, false⟩ = .lit (.string n) :: (rowS a ++ (rowS b ++ [.lit (.bool false)])) := rfl
@[simp] theorem rowP_bel (p : Pr) : D.belL 0 (rowP p) = true := by
  obtain ⟨w, a, b, l⟩ := p
  cases l <;> simp [rowP, zrow]
theorem lackPs_app (a : Sh) : ∀ (l r : List ByteArray), lackPs a (l ++ r) = lackPs a l ++ lackPs a r
  | [], r => rfl
  | n :: l, r => by simp [lackPs, lackPs_app a l r]
theorem lackPs_take (a : Sh) (l : List ByteArray) (i : Nat) (h : i < l.length) : lackPs a (l.take (i + 1)) = lackPs a (l.take i) ++ lackPs a [l[i]] := by
  rw [List.take_succ_eq_append_getElem h, lackPs_app]
theorem lackPs_split (a : Sh) (l : List ByteArray) (i : Nat) (h : i < l.length) : lackPs a l = lackPs a (l.take i) ++ (lackPs a [l[i]] ++ lackPs a (l.drop (i + 1))) := by
  conv => lhs; rw [← List.take_append_drop i l, List.drop_eq_getElem_cons h]
  rw [lackPs_app]
  congr 1
  rw [← lackPs_app]; rfl
theorem havePs_app (a : Sh) : ∀ (l r : List ByteArray) (q s : List Sh), l.length = q.length → havePs a (l ++ r) (q ++ s) = havePs a l q ++ havePs a r s
  | [], r, [], s, _ => rfl
  | n :: l, r, k :: q, s, h => by simp [havePs, havePs_app a l r q s (by simpa using h)]
theorem havePs_take (a : Sh) (l : List ByteArray) (q : List Sh) (hlq : l.length = q.length) (i : Nat) (h : i < l.length) : havePs a (l.take (i + 1)) (q.take (i + 1)) = havePs a (l.take i) (q.take i) ++ havePs a [l[i]] [q[i]'(by omega)] := by
  rw [List.take_succ_eq_append_getElem h, List.take_succ_eq_append_getElem (show i < q.length by omega), havePs_app a _ _ _ _ (by simp; omega)]
theorem havePs_split (a : Sh) (l : List ByteArray) (q : List Sh) (hlq : l.length = q.length) (i : Nat) (h : i < l.length) : havePs a l q = havePs a (l.take i) (q.take i) ++ (havePs a [l[i]] [q[i]'(by omega)] ++ havePs a (l.drop (i + 1)) (q.drop (i + 1))) := by
  conv => lhs; rw [← List.take_append_drop i l, ← List.take_append_drop i q, List.drop_eq_getElem_cons h, List.drop_eq_getElem_cons (show i < q.length by omega)]
  rw [havePs_app a _ _ _ _ (by simp; omega)]
  congr 1
  exact havePs_app a [l[i]] _ [q[i]'(by omega)] _ rfl

def fldP (a b : Sh) : List Pr := lackPs a b.names ++ havePs a b.names b.kids

set_option maxHeartbeats 4000000 in
set_option maxRecDepth 10000 in
theorem fields1_ok (a b : Sh) (hla : a.names.length ≤ 1000000) (hka : a.kids.length = a.names.length) (hkb : b.kids.length = b.names.length) (hlb : b.names.length ≤ 1000000) : IterOk Try.prog 127 [] [.ps none (rowS a) 0, .ps none (rowS b) 0] ((fldP a b).map fun p => [.agg (rowP p)]) := by
  intro I y hy
  have ht := tbC_ok (P := Try.prog) (g := 128) (f := atT a) (ctr_ok fun n _ => ⟨at_ok a n hla, by simp, by simp⟩) (tb0_ok _)
  refine fnG_wy ht fol Try.func127 rfl (by kernel_rfl) (by simp [Try.ntmps127]) (by kernel_rfl) fun I' hI => ?_
  simp -implicitDefEqProofs [Try.ntmps127]
  have hyI := hy.fr hI
  refine w_loop (fun i : { i : Nat // i ≤ b.names.length } => S.mk 61 [(0, .con y), (1, .ps none (rowS a) 0), (2, .ps none (rowS b) 0), (4, .fn (.func 128) [] [.ps none (rowS a) 0]), (12, .sq false 1 (strsD b.names)), (13, .lit (.int .i64 b.names.length)), (14, .lit (.int .i64 i.1))] [] 0 [] (some (lackPs a (b.names.take i.1)).length) []) (fun i => b.names.length - i.1) ⟨0, Nat.zero_le _⟩ (le_of [] (by simp [lackPs])) fun ⟨i, hi⟩ => wy_ok ht fol _ _ _ (by kernel_rfl) ?_
  have hw : IntKind.i64.wrap ((i : Int) + 1) = (i : Int) + 1 := wrap64 (by omega) (by omega)
  by_cases hil : i < b.names.length
  · have hsp := lackPs_split a b.names i hil
    have htk := lackPs_take a b.names i hil
    cases hx : idxO a.names b.names[i] with
    | some j =>
      have e1 := idxN_some hx
      have e2 : ¬ (j : Int) < 0 := by omega
      have e3 : lackPs a [b.names[i]] = [] := by simp [lackPs, hx]
      rw [e3, List.append_nil] at htk
      simp -implicitDefEqProofs [hil, hw, atT_eq, e1, e2]
      exact ⟨i + 1, le_of [] (by simp [htk]), by omega, by omega⟩
    | none =>
      have e1 := idxN_none hx
      have e3 : lackPs a [b.names[i]] = [⟨b.names[i], sh0, sh0, true⟩] := by simp [lackPs, hx]
      rw [e3] at htk hsp
      simp -implicitDefEqProofs [hil, hw, atT_eq, e1]
      refine callS_yield (xs := _) (k := (lackPs a (b.names.take i)).length) (fun _ => trivial) (fun _ => hyI) (fun _ => rfl) (fun _ => ?_) (fun _ => by simp) (fun _ t0 => ?_) (fun h => by cases h)
      · rw [List.getElem?_map, fldP, hsp]
        simp [rowP, zrow]
      cases t0 with
      | false => simp -implicitDefEqProofs
      | true =>
        simp -implicitDefEqProofs [hw]
        exact ⟨i + 1, le_of [] (by simp [htk]), by omega, by omega⟩
  · have : i = b.names.length := by omega
    subst this
    simp -implicitDefEqProofs [List.take_length]
    have hlq : b.names.length = b.kids.length := hkb.symm
    refine w_loop (fun i : { i : Nat // i ≤ b.names.length } => S.mk 61 [(0, .con y), (1, .ps none (rowS a) 0), (2, .ps none (rowS b) 0), (4, .fn (.func 128) [] [.ps none (rowS a) 0]), (31, .sq false 1 (strsD b.names)), (32, .lit (.int .i64 b.names.length)), (33, .lit (.int .i64 i.1))] [] 0 [] (some ((lackPs a b.names).length + (havePs a (b.names.take i.1) (b.kids.take i.1)).length)) []) (fun i => b.names.length - i.1) ⟨0, Nat.zero_le _⟩ (le_of [] (by simp [havePs])) fun ⟨i, hi⟩ => wy_ok ht fol _ _ _ (by kernel_rfl) ?_
    have hw : IntKind.i64.wrap ((i : Int) + 1) = (i : Int) + 1 := wrap64 (by omega) (by omega)
    by_cases hil : i < b.names.length
    · have hik : i < b.kids.length := by omega
      have hsp := havePs_split a b.names b.kids hlq i hil
      have htk := havePs_take a b.names b.kids hlq i hil
      cases hx : idxO a.names b.names[i] with
      | none =>
        have e1 := idxN_none hx
        have e3 : havePs a [b.names[i]] [b.kids[i]] = [] := by simp [havePs, hx]
        rw [e3, List.append_nil] at htk
        simp -implicitDefEqProofs [hil, hw, atT_eq, e1]
        exact ⟨i + 1, le_of [] (by simp [htk]), by omega, by omega⟩
      | some j =>
        have e1 := idxN_some hx
        obtain ⟨hj, _⟩ := idxO_lt hx
        have hjk : j < a.kids.length := by omega
        have e3 : havePs a [b.names[i]] [b.kids[i]] = [⟨b.names[i], kid a j, b.kids[i], false⟩] := by simp [havePs, hx]
        rw [e3] at htk hsp
        have hjk' : (j : Int) < (a.kids.length : Int) := by omega
        have hik' : (i : Int) < (b.kids.length : Int) := by omega
        have ej : kid a j = a.kids[j] := kid_eq hjk
        simp -implicitDefEqProofs [hil, hw, atT_eq, e1, hik, hik', hjk, hjk']
        refine callS_yield (xs := _) (k := (lackPs a b.names).length + (havePs a (b.names.take i) (b.kids.take i)).length) (fun _ => trivial) (fun _ => hyI) (fun _ => rfl) (fun _ => ?_) (fun _ => by simp) (fun _ t0 => ?_) (fun h => by cases h)
        · rw [List.getElem?_map, fldP, List.getElem?_append_right (by omega), Nat.add_sub_cancel_left, hsp, List.getElem?_append_right (by omega), Nat.sub_self]
          simp [rowP, ej]
        cases t0 with
        | false => simp -implicitDefEqProofs
        | true =>
          simp -implicitDefEqProofs [hw]
          exact ⟨i + 1, le_of [] (by simp [htk]; omega), by omega, by omega⟩
    · have : i = b.names.length := by omega
      subst this
      simp -implicitDefEqProofs
      rw [List.take_of_length_le (by omega)]
      simp [fldP]

theorem fields_ok (a b : Sh) : FnO Try.prog 100 [.agg (rowS a), .agg (rowS b)] (.ret (.fn (.func 127) [] [.ps none (rowS a) 0, .ps none (rowS b) 0])) := by
  refine fnO_wp (tb0_ok _) fol Try.func100 rfl (by kernel_rfl) (by simp [Try.ntmps100]) (by kernel_rfl) fun I => ?_
  simp -implicitDefEqProofs [Try.ntmps100]
  repeat' first | exact .same _ (by simp) | exact sealsL_same (by simp) | refine seals_fn ?_ ?_ | refine sealsL_cons ?_ ?_ | refine seals_pt rfl ?_
theorem signature_ok (a b : Sh) : FnO Try.prog 101 [.agg (rowS a), .agg (rowS b)] (.ret (.fn (.func 130) [] [.ps none (rowS a) 0, .ps none (rowS b) 0])) := by
  refine fnO_wp (tb0_ok _) fol Try.func101 rfl (by kernel_rfl) (by simp [Try.ntmps101]) (by kernel_rfl) fun I => ?_
  simp -implicitDefEqProofs [Try.ntmps101]
  repeat' first | exact .same _ (by simp) | exact sealsL_same (by simp) | refine seals_fn ?_ ?_ | refine sealsL_cons ?_ ?_ | refine seals_pt rfl ?_

def innerD (a b : Sh) : D := if a.kind = 6 then .tup [.fn (.func 127) [] [.ps none (rowS a) 0, .ps none (rowS b) 0], .lit (.bool true)] else if a.kids.length = b.kids.length then .tup [.fn (.func 130) [] [.ps none (rowS a) 0, .ps none (rowS b) 0], .lit (.bool true)] else .tup [.lit .nilFunc, .lit (.bool false)]
set_option maxRecDepth 10000 in
theorem inner_ok (a b : Sh) : FnO Try.prog 70 [.agg (rowS a), .agg (rowS b)] (.ret (innerD a b)) := by
  have ht := tbC_ok (P := Try.prog) (g := 100) (sh2T_ok (q := fun _ _ => True) (r := fun a b => .fn (.func 127) [] [.ps none (rowS a) 0, .ps none (rowS b) 0]) (fun a b _ => fields_ok a b) (by simp)) (tbC_ok (g := 101) (sh2T_ok (q := fun _ _ => True) (r := fun a b => .fn (.func 130) [] [.ps none (rowS a) 0, .ps none (rowS b) 0]) (fun a b _ => signature_ok a b) (by simp)) (tb0_ok _))
  refine fnO_wx ht fol Try.func70 rfl (by kernel_rfl) (by simp [Try.ntmps70]) (by kernel_rfl) fun I => ?_
  unfold innerD
  by_cases h6 : a.kind = 6
  · simp -implicitDefEqProofs [Try.ntmps70, sh2T_eq, h6]
    exact .same _ (by simp)
  · by_cases hl : a.kids.length = b.kids.length
    · simp -implicitDefEqProofs [Try.ntmps70, sh2T_eq, h6, hl]
      exact .same _ (by simp)
    · have hl' : ((a.kids.length : Int) == (b.kids.length : Int)) = false := by simp; omega
      have hl'' : ((a.kids.length : Int) != (b.kids.length : Int)) = true := by simp; omega
      simp -implicitDefEqProofs [Try.ntmps70, sh2T_eq, h6, hl, hl', hl'']
      exact .same _ (by simp)

set_option maxHeartbeats 4000000 in
set_option maxRecDepth 10000 in
theorem signature1_ok (a b : Sh) (h0 : 0 < a.kids.length) (hl : a.kids.length = b.kids.length) (hla : a.kids.length ≤ 1000) : IterOk Try.prog 130 [] [.ps none (rowS a) 0, .ps none (rowS b) 0] ((sigPs a b).map fun p => [.agg (rowP p)]) := by
  intro I y hy
  obtain ⟨n, hn⟩ : ∃ n, a.kids.length = n + 1 := ⟨a.kids.length - 1, by omega⟩
  have e1 : IntKind.i64.wrap ((a.kids.length : Int) - 1) = (n : Int) := by rw [wrap64 (by omega) (by omega)]; omega
  have ht := tbC_ok (P := Try.prog) (g := 131) (f := cnT (fun n => n ≤ 1000) (decF 3)) (ctr_ok fun n hn => ⟨count_ok n hn, by simp, by simp⟩) (tb0_ok _)
  refine fnG_wy ht fol Try.func130 rfl (by kernel_rfl) (by simp [Try.ntmps130]) (by kernel_rfl) fun I' hI => ?_
  simp -implicitDefEqProofs [Try.ntmps130, e1]
  have hyI := hy.fr hI
  have hn1 : a.kids.length - 1 = n := by omega
  refine w_loop (fun i : { i : Nat // i ≤ n } => S.mk 46 [(0, .con y), (1, .ps none (rowS a) 0), (2, .ps none (rowS b) 0), (4, .lit (.int .i64 n)), (10, .lit (.int .i64 n)), (11, .lit (.int .i64 i.1))] [] 0 [] (some i.1) []) (fun i => n - i.1) ⟨0, Nat.zero_le _⟩ (le_of [] (by simp)) fun ⟨i, hi⟩ => wy_ok ht fol _ _ _ (by kernel_rfl) ?_
  have hw : IntKind.i64.wrap ((i : Int) + 1) = (i : Int) + 1 := wrap64 (by omega) (by omega)
  by_cases hil : i < n
  · have h1 : i < a.kids.length := by omega
    have h2 : i < b.kids.length := by omega
    have ec : cnT (fun n => n ≤ 1000) (decF 3) [.lit (.int .i64 ((i : Int) + 1))] = some (i + 1 ≤ 1000, .lit (.string (bA (decF 3 (i + 1))))) := cnT_eq _ _ (i + 1)
    have hlen := decF_len 3 (i + 1)
    have h4 : i + 1 ≤ 1000 := by omega
    simp -implicitDefEqProofs [hil, hw, ec, h1, h2, h4]
    refine ⟨by omega, ?_⟩
    refine callS_yield (xs := _) (k := i) (fun _ => trivial) (fun _ => hyI) (fun _ => rfl) (fun _ => ?_) (fun _ => by simp) (fun _ t0 => ?_) (fun h => by cases h)
    · rw [List.getElem?_map, sigPs, List.getElem?_append_left (by simp; omega), List.getElem?_map, List.getElem?_range (by omega)]
      simp [rowP, argB, decB, bA, kid_eq h1, kid_eq h2]
    cases t0 with
    | false => simp -implicitDefEqProofs
    | true =>
      simp -implicitDefEqProofs [hw]
      exact ⟨i + 1, le_of [] (by simp), by omega, by omega⟩
  · have : i = n := by omega
    subst this
    have h1 : i < a.kids.length := by omega
    have h2 : i < b.kids.length := by omega
    have h1' : (i : Int) < (a.kids.length : Int) := by omega
    have h2' : (i : Int) < (b.kids.length : Int) := by omega
    simp -implicitDefEqProofs [h1, h2, h1', h2']
    refine callS_yield (xs := _) (k := i) (fun _ => trivial) (fun _ => hyI) (fun _ => rfl) (fun _ => ?_) (fun _ => by simp) (fun _ t0 => ?_) (fun h => by cases h)
    · rw [List.getElem?_map, sigPs, List.getElem?_append_right (by simp; omega)]
      simp [rowP, resB, hn1, kid_eq h1, kid_eq h2]
    cases t0 with
    | false => simp -implicitDefEqProofs
    | true =>
      simp -implicitDefEqProofs
      simp [sigPs, hn1]
end Go.Proofs.Ythlebppdhipanaa
