/-
  The law on one of some as a set: the walk.
-/
import Derived.Test.YthlebppdhipanaaShNx
import Derived.Test.YthlebppdhipanaaShZy
import Derived.Test.YthlebppdhipanaaSymc
set_option linter.all false
namespace Go.Proofs.Ythlebppdhipanaa
open Go.Ev
open Go.Aw (tiOf fieldsOf sB)

theorem or_okf (f : Bool) (l : List Sh) (hz : szs l ≤ 900000) (hP : ∀ s ∈ l, limP s) : FnO Try.prog 22 [.sq f 3 (rowsS l)] (.ret (.agg (rowS (orS l)))) :=
  fnO_wk (or_ok l hz hP) ⟨.sq f false 3 (rowsS l) (rowsS l) (fun h => by cases h) rfl (fun i r r' h1 h2 => by rw [h1] at h2; cases h2; rfl) (fun i r r' j x x' h1 h2 h3 h4 => by rw [h1] at h2; cases h2; rw [h3] at h4; cases h4; exact .refl _), trivial⟩
noncomputable def orTb : List D → Option (Prop × D) := ctr (fun p : Bool × List Sh => [.sq p.1 3 (rowsS p.2)]) (fun p => szs p.2 ≤ 900000 ∧ ∀ s ∈ p.2, limP s) (fun p => .agg (rowS (orS p.2)))
theorem orTb_eq (f : Bool) (l : List Sh) : orTb [.sq f 3 (rowsS l)] = some (szs l ≤ 900000 ∧ ∀ s ∈ l, limP s, .agg (rowS (orS l))) := ctr_enc (enc := fun p : Bool × List Sh => [D.sq p.1 3 (rowsS p.2)]) (fun a b h => by simp at h; exact Prod.ext h.1 (rowsS_inj _ _ h.2)) (f, l)
theorem orTb_ok : ∀ xs p d, orTb xs = some (p, d) → p → FnO Try.prog 22 xs (.ret d) ∧ D.belL 0 xs = true ∧ D.bel 0 d = true :=
  ctr_ok fun p hl => ⟨or_okf p.1 p.2 hl.1 hl.2, by simp, by simp⟩
noncomputable def tb8 : Tb := tbC 19 (shT limP (tbool goodS)) (tbC 20 alT (tbC 21 (shT limP (fun s => .lit (.int .i64 (sizeS s)))) (tbC 22 orTb (tbC 27 (smT limP) (tbC 29 (tCo (.lit (.bool true))) tb0)))))
theorem tb8_ok : TbOk Try.prog tb8 := by
  refine tbC_ok (shT_ok rgood_ok (tbool_bel _)) ?_
  refine tbC_ok alT_ok ?_
  refine tbC_ok (shT_ok size_ok (by simp)) ?_
  refine tbC_ok orTb_ok ?_
  refine tbC_ok (smT_ok (q := limP) fun s hs => same_ok (sz s) s (Nat.le_refl _) hs) ?_
  exact tbC_ok (ctr_ok fun _ _ => ⟨lives29_ok, by simp, by simp⟩) (tb0_ok _)

theorem chunk2 (a b : Sh) : List.map (fun i => List.take 3 (List.drop (i * 3) (rowS a ++ rowS b))) (List.range 2) = rowsS [a, b] := by
  cases a; cases b; rfl
def lF8 (l : List Sh) (k : Int) (i : Nat) : S := S.mk 99 [(0, .sq false 3 (rowsS l)), (1, .lit (.int .i64 k)), (4, .lit (.bool false)), (5, .lit (.int .i64 ((szs (l.take i) : Int) + 1))), (21, .sq false 3 (rowsS l)), (22, .lit (.int .i64 l.length)), (23, .lit (.int .i64 i))] [] 0 [] none []

set_option maxHeartbeats 4000000 in
set_option maxRecDepth 20000 in
theorem law8_ok (l : List Sh) (k : Int) (hl : l.length ≤ 2513169434843) : FnO Try.prog 8 [.sq false 3 (rowsS l), .lit (.int .i64 k)] (.ret (.lit (.bool true))) := by
  have ht := tb8_ok
  unfold tb8 at ht
  refine fnO_of Try.func8 rfl (by kernel_rfl) (by simp [Try.ntmps8]) fun I => ?_
  refine w_seq (wx_ok ht fol _ _ _ (by kernel_rfl) ?_)
  simp -implicitDefEqProofs [Try.ntmps8]
  cases hA : allL l with
  | false =>
    refine w_seq (wx_ok ht fol _ _ _ (by kernel_rfl) ?_)
    simp -implicitDefEqProofs [alT_eq, hA, tCo_eq]
    exact ⟨by omega, .same _ (by simp)⟩
  | true =>
    have hA' := hA
    simp only [allL, Bool.and_eq_true, decide_eq_true_eq, List.all_eq_true] at hA'
    obtain ⟨hL, hz, hl60⟩ := hA'
    have pL : ∀ s ∈ l, limP s := fun s hs => light_limP (hL s hs)
    by_cases h0 : l = []
    · have hb0 : ((l.length : Int) == 0) = true := by subst h0; rfl
      refine w_seq (wx_ok ht fol _ _ _ (by kernel_rfl) ?_)
      simp -implicitDefEqProofs [alT_eq, hA, hb0, tCo_eq]
      exact ⟨by omega, .same _ (by simp)⟩
    have hb0 : ((l.length : Int) == 0) = false := by simp; exact h0
    refine w_seq (wx_ok ht fol _ _ _ (by kernel_rfl) ?_)
    simp -implicitDefEqProofs [alT_eq, hA, hb0]
    refine ⟨by omega, ?_⟩
    refine w_seq (wx_ok ht fol _ _ _ (by kernel_rfl) ?_)
    simp -implicitDefEqProofs [hb0]
    refine w_seq (wx_ok ht fol _ _ _ (by kernel_rfl) ?_)
    simp -implicitDefEqProofs
    refine w_loop (fun i : { i : Nat // i ≤ l.length ∧ ∀ j (h : j < l.length), j < i → goodS l[j] = true } => lF8 l k i.1) (fun i => l.length - i.1) ⟨0, Nat.zero_le _, fun j _ h => by omega⟩ (le_of [] (by simp [lF8, szs_nil])) fun ⟨i, hi, hgd⟩ => wx_ok ht fol _ _ _ (by kernel_rfl) ?_
    have hw : IntKind.i64.wrap ((i : Int) + 1) = (i : Int) + 1 := wrap64 (by omega) (by omega)
    by_cases hil : i < l.length
    · have hm : l[i] ∈ l := List.getElem_mem hil
      have pi := pL _ hm
      cases hG : goodS l[i] with
      | false =>
        simp -implicitDefEqProofs [lF8, hil, shT_eq, pi, tbool, hG, tCo_eq]
        exact .same _ (by simp)
      | true =>
        have ht1 := szs_take hil
        have ht2 := szs_le_take l (i + 1)
        have hss : sizeS l[i] = sz l[i] := by simp [sizeS, hG]
        have hw2 : IntKind.i64.wrap ((szs (l.take i) : Int) + 1 + (sz l[i] : Int)) = (szs (l.take i) : Int) + 1 + (sz l[i] : Int) := wrap64 (by omega) (by omega)
        have hgd2 : ∀ j (h : j < l.length), j < i + 1 → goodS l[j] = true := fun j hj hlt => by
          by_cases h9 : j = i
          · subst h9; exact hG
          · exact hgd j hj (by omega)
        simp -implicitDefEqProofs [lF8, hil, shT_eq, pi, tbool, hG, hss, hw, hw2]
        exact ⟨i + 1, le_of [] (by simp [lF8, ht1]; omega), ⟨by omega, hgd2⟩, by omega⟩
    · have : i = l.length := by omega
      subst this
      simp -implicitDefEqProofs [lF8]
      by_cases h5 : szs l + 1 ≤ 512
      · have h5b : ¬ ((512 : Int) < (szs l : Int) + 1) := by omega
        have hall : ∀ s ∈ l, goodS s = true := fun s hs => by
          obtain ⟨j, hj, rfl⟩ := List.mem_iff_getElem.1 hs
          exact hgd j hj hj
        have hl0 : 0 < l.length := by
          rcases Nat.eq_zero_or_pos l.length with h | h
          · exact absurd (List.eq_nil_of_length_eq_zero h) h0
          · exact h
        have hu0 : 0 ≤ IntKind.u64.wrap k := by
          simp only [IntKind.wrap]
          have : IntKind.u64.signed = false := rfl
          simp only [this]
          exact Int.emod_nonneg _ (by decide)
        have e0 : IntKind.u64.wrap (l.length : Int) = (l.length : Int) := by
          simp only [IntKind.wrap]
          have : IntKind.u64.signed = false := rfl
          simp only [this]
          exact Int.emod_eq_of_lt (by omega) (by show (l.length : Int) < 18446744073709551616; omega)
        obtain ⟨j, hj⟩ : ∃ j : Nat, (IntKind.u64.wrap k).tmod (l.length : Int) = (j : Int) := by
          rw [Int.tmod_eq_emod_of_nonneg hu0]
          exact ⟨((IntKind.u64.wrap k) % (l.length : Int)).toNat, by rw [Int.toNat_of_nonneg (Int.emod_nonneg _ (by omega))]⟩
        have hjl : j < l.length := by
          have := Int.emod_lt_of_pos (IntKind.u64.wrap k) (b := (l.length : Int)) (by omega)
          rw [Int.tmod_eq_emod_of_nonneg hu0] at hj
          omega
        have e2 : IntKind.i64.wrap (j : Int) = (j : Int) := wrap64 (by omega) (by omega)
        have hlne : ¬ ((l.length : Int) = 0) := by omega
        have hm : l[j] ∈ l := List.getElem_mem hjl
        have gO := or_good h0 hall h5
        have pO := or_limP h0 hall pL h5
        have hzo : szs l ≤ 900000 := by omega
        refine w_seq (wx_ok ht fol _ _ _ (by kernel_rfl) ?_)
        simp -implicitDefEqProofs [h5b]
        refine w_seq (wx_ok ht fol _ _ _ (by kernel_rfl) ?_)
        simp -implicitDefEqProofs [ti30', e0, hj, e2, hjl, hlne]
        refine ⟨h0, ?_⟩
        refine w_seq (wx_ok ht fol _ _ _ (by kernel_rfl) ?_)
        simp -implicitDefEqProofs [orTb_eq, hzo]
        refine ⟨pL, ?_⟩
        refine w_weaken (s' := S.mk 99 [(0, .sq false 3 (rowsS l)), (8, .lit (.int .i64 j)), (9, .pt 0 0)] [(0, .cells 25 none (rowS (orS l)))] 1 [] none []) (le_of [0] (by simp)) ?_
        refine w_seq (Bl.w_drawL ht true 17 10 (ty := 25) fol (by kernel_rfl) (by kernel_rfl) ti25 ⟨16, _, rfl, rfl, rfl⟩ ?_)
        have hd : List.take (l.length - j) (List.drop j (rowsS l)) = rowS l[j] :: rowsS (l.drop (j + 1)) := by
          have e1 : List.drop j (rowsS l) = rowsS (l.drop j) := by simp [rowsS_map, List.map_drop]
          rw [e1, List.take_of_length_le (by simp), List.drop_eq_getElem_cons hjl]
          simp [rowsS]
        have htk : List.take j (rowsS l) = rowsS (l.take j) := by simp [rowsS_map, List.map_take]
        have hgt : (rowsS l)[j]?.getD [] = rowS l[j] := by simp [rowsS, hjl]
        simp -implicitDefEqProofs [Aw.cutL, hd, htk, hgt, rowsS_flat]
        refine ⟨by omega, ⟨fun a ha => rowsS_rows _ a ha, by omega, by omega⟩, by omega, ⟨fun r hr => rowsS_rows _ r hr, by omega, by omega, by omega⟩, by omega, by omega, ?_⟩
        have hrt : orS (l.drop j ++ l.take j ++ [l[j]]) = orS l := (or_turn j hjl hall).symm
        have hsz : szs (l.drop j ++ l.take j ++ [l[j]]) ≤ 900000 := by
          have h1 := szs_app (l.take j) (l.drop j)
          rw [List.take_append_drop] at h1
          have h2 := light_sz (hL _ hm)
          rw [szs_app, szs_app]
          have h3 : szs [l[j]] = sz l[j] := by rw [szs_cons, szs_nil]; rfl
          omega
        have hlen : (l.drop j ++ l.take j ++ [l[j]]).length = l.length - (j + 1) + 1 + min j l.length + 1 := by simp; omega
        refine ⟨_, _, 22, 3, l.length - (j + 1) + 1 + min j l.length + 1, 3, 25, some 3, rowsS (l.drop j ++ l.take j ++ [l[j]]), .ow 3 (l.length - (j + 1) + 1 + min j l.length + 1), .agg (rowS (orS l)), [], [], rfl, rfl, rfl, rfl, .inl ⟨rfl, by omega⟩, ?_, by rw [rowsS_length]; exact hlen, rowsS_rows _, ?_, by simp, by simp, by simp, by simp, ?_⟩
        · show some (Blk.cells 25 (some 3) _) = some (Blk.cells 25 (some 3) _)
          rw [rowsS_app, rowsS_app, List.flatten_append, List.flatten_append, show rowsS (l.drop j) = rowS l[j] :: rowsS (l.drop (j + 1)) by rw [List.drop_eq_getElem_cons hjl]; rfl, List.flatten_cons, show rowsS [l[j]] = [rowS l[j]] from rfl]
          simp only [List.flatten_cons, List.flatten_nil, List.append_nil, List.append_assoc]
        · rw [← hrt]
          exact or_ok _ hsz (fun s hs => by
            simp only [List.mem_append, List.mem_singleton] at hs
            rcases hs with (h | h) | rfl
            · exact pL _ (List.mem_of_mem_drop h)
            · exact pL _ (List.mem_of_mem_take h)
            · exact pL _ hm)
        simp -implicitDefEqProofs
        refine seqOk_W true ht (by simp) ?_
        simp -implicitDefEqProofs
        refine w_weaken (s' := S.mk 99 [(0, .sq false 3 (rowsS l)), (8, .lit (.int .i64 j)), (9, .pt 0 0), (10, .pt 1 0)] [(0, .cells 25 none (rowS (orS l))), (1, .cells 25 none (rowS (orS l)))] 2 [] none []) (le_of [0, 4] (by simp)) ?_
        refine w_seq (wx_ok ht fol _ _ _ (by kernel_rfl) ?_)
        simp -implicitDefEqProofs
        have gL := or_good h0 hall h5
        have zO : sz (orS l) ≤ 512 := by simp only [goodS, Bool.and_eq_true, decide_eq_true_eq] at gO; exact gO.1
        have hag : orS [orS l] = orS l := (or_again h0 hall h5).symm
        have zz : szs [orS l] ≤ 900000 := by rw [szs_cons, szs_nil]; omega
        refine w_seq (W.mono (Q := fun x s' => x = .normal ∧ s'.le none (S.mk 99 [(9, .pt 0 0), (10, .pt 1 0), (11, .pt 2 0)] [(0, .cells 25 none (rowS (orS l))), (1, .cells 25 none (rowS (orS l))), (2, .cells 25 none (rowS (orS l)))] 3 [] none [])) ?_ ?_)
        · rcases Nat.eq_zero_or_pos j with hj0 | hj0
          · refine wx_ok (tb0_ok _) fol _ _ _ (by kernel_rfl) ?_
            have hj1 : ¬ 0 < j := by omega
            simp -implicitDefEqProofs [hj1]
            exact le_of [0, 1, 2] (by simp)
          · refine w_seq (wx_ok ht fol _ _ _ (by kernel_rfl) ?_)
            simp -implicitDefEqProofs
            refine w_cond true (by simp [S.val, lk, hj0]) (fun _ => ?_) (fun h => by cases h)
            refine Bg.w_drawG true ht 10 fol (by kernel_rfl) (by kernel_rfl) ?_
            have hd1 : List.take (l.length - j) (List.drop j (rowsS l)) = rowsS (l.drop j) := by
              have e1 : List.drop j (rowsS l) = rowsS (l.drop j) := by simp [rowsS_map, List.map_drop]
              rw [e1, List.take_of_length_le (by simp)]
            have hor : orS [orS (l.take j), orS (l.drop j)] = orS l := (or_two j hj0 hjl hall h5).symm
            have ha := szs_app (l.take j) (l.drop j)
            rw [List.take_append_drop] at ha
            have n1 : l.take j ≠ [] := fun h => by have := congrArg List.length h; rw [List.length_take] at this; simp only [List.length_nil] at this; omega
            have n2 : l.drop j ≠ [] := fun h => by have := congrArg List.length h; rw [List.length_drop] at this; simp only [List.length_nil] at this; omega
            have p1 : ∀ s ∈ l.take j, limP s := fun s hs => pL s (List.mem_of_mem_take hs)
            have p2 : ∀ s ∈ l.drop j, limP s := fun s hs => pL s (List.mem_of_mem_drop hs)
            have g1 := or_good n1 (fun s hs => hall s (List.mem_of_mem_take hs)) (by omega)
            have g2 := or_good n2 (fun s hs => hall s (List.mem_of_mem_drop hs)) (by omega)
            have q1 := or_limP n1 (fun s hs => hall s (List.mem_of_mem_take hs)) p1 (by omega)
            have q2 := or_limP n2 (fun s hs => hall s (List.mem_of_mem_drop hs)) p2 (by omega)
            have hss : szs [orS (l.take j), orS (l.drop j)] ≤ 900000 := by
              simp only [goodS, Bool.and_eq_true, decide_eq_true_eq] at g1 g2
              rw [szs_cons, szs_cons, szs_nil]
              omega
            simp -implicitDefEqProofs [Aw.cutL, hd1, htk, orTb_eq, chunk2, hss, hor]
            refine ⟨by omega, ⟨by omega, p1⟩, by omega, ⟨by omega, p2⟩, ⟨q1, q2⟩, ?_⟩
            refine seqOk_W true ht (by simp) ?_
            simp -implicitDefEqProofs
            exact le_of [0, 1, 2] (by simp)
        · rintro x s' ⟨rfl, hle⟩
          refine w_weaken hle ?_
          refine w_seal [(9, .ps none (rowS (orS l)) 0), (10, .ps none (rowS (orS l)) 0), (11, .ps none (rowS (orS l)) 0)] [] rfl (fun p hp => ?_) (by simp) ?_
          · simp at hp
            rcases hp with rfl | rfl | rfl
            · exact ⟨_, rfl, seals_pt rfl (sealsL_same (by simp))⟩
            · exact ⟨_, rfl, seals_pt rfl (sealsL_same (by simp))⟩
            · exact ⟨_, rfl, seals_pt rfl (sealsL_same (by simp))⟩
          simp -implicitDefEqProofs only [S.sld]
          refine w_seq (Bg.w_drawG true ht 22 fol (by kernel_rfl) (by kernel_rfl) ?_)
          simp -implicitDefEqProofs [shT_eq, tbool, gO, pO, smT_eq, orTb_eq, tCo_eq, hag, zz, show [rowS (orS l)] = rowsS [orS l] from rfl]
          refine seqOk_W true ht (by simp) ?_
          simp -implicitDefEqProofs
          refine wx_ok ht fol _ _ _ (by kernel_rfl) ?_
          simp -implicitDefEqProofs
          exact .same _ (by simp)
      · have h5b : ((512 : Int) < (szs l : Int) + 1) := by omega
        refine w_seq (wx_ok ht fol _ _ _ (by kernel_rfl) ?_)
        simp -implicitDefEqProofs [h5b, tCo_eq]
        exact .same _ (by simp)
end Go.Proofs.Ythlebppdhipanaa
