/-
  The document's: how many parts.
-/
import Derived.Test.YthlebppdhipanaaShPl
set_option linter.all false
namespace Go.Proofs.Ythlebppdhipanaa
open Go.Ev
open Go.Aw (tiOf fieldsOf sB)

def partsR (s : Sh) (most : Int) : Int := min (sz s : Int) (max most 0 + 1)
theorem szs_take {l : List Sh} {i : Nat} (h : i < l.length) : szs (l.take (i + 1)) = szs (l.take i) + sz l[i] := partsLs_take l i h
theorem szs_append (a b : List Sh) : szs (a ++ b) = szs a + szs b := by simp [szs, partsLs_append]
theorem szs_full (l : List Sh) : szs (l.take l.length) = szs l := by simp

set_option maxHeartbeats 1000000 in
set_option maxRecDepth 10000 in
theorem partsR_ok : ∀ (s : Sh) (most : Int), -100000 ≤ most → most ≤ 100000 → FnO Try.prog 37 [.agg (rowS s), .lit (.int .i64 most)] (.ret (.lit (.int .i64 (partsR s most))))
  | .mk k ns l, most, hm1, hm2 => by
    have ht := tbC_ok (P := Try.prog) (g := 37) (shIT_ok (q := fun n i => n ∈ l ∧ -100000 ≤ i ∧ i ≤ 100000) (r := fun n i => .lit (.int .i64 (partsR n i))) (fun n i h => partsR_ok n i h.2.1 h.2.2) (by simp)) (tb0_ok _)
    refine fnO_wp ht fol Try.func37 rfl (by kernel_rfl) (by simp [Try.ntmps37]) (by kernel_rfl) fun I => ?_
    simp -implicitDefEqProofs [Try.ntmps37, rowS]
    refine w_aggLen 0 2 rfl rfl fun hlen => ?_
    rw [rowsS_length] at hlen
    refine w_loop (fun p : { p : Nat × Int // p.1 ≤ l.length ∧ p.2 = min ((1 + szs (l.take p.1) : Nat) : Int) (max most 0 + 1) } => S.mk 35 [(1, .lit (.int .i64 most)), (2, .pt 0 0), (4, .lit (.int .i64 0)), (5, .lit (.int .i64 p.1.2)), (6, .lit (.int .i64 p.1.1))] [(0, .cells 25 none [.lit (.int .i64 k), .sq false 1 (strsD ns), .sq false 3 (rowsS l)])] 1 [] none []) (fun p => l.length - p.1.1) ⟨(0, 1), Nat.zero_le _, by simp [szs, partsLs]; omega⟩ (le_of [0] (by simp)) fun ⟨(i, N), hi, hN⟩ => wp_ok ht fol _ _ _ (by kernel_rfl) ?_
    simp only [] at hi hN
    have hz := sz_eq (.mk k ns l)
    simp only [Sh.kids] at hz
    by_cases hil : i < l.length
    · have hw2 : IntKind.i64.wrap ((i : Int) + 1) = (i : Int) + 1 := wrap64 (by omega) (by omega)
      have hst := szs_take hil
      have hp := sz_pos l[i]
      by_cases hNm : N ≤ most
      · have hw3 : IntKind.i64.wrap (most - N) = most - N := wrap64 (by omega) (by omega)
        have hw4 : IntKind.i64.wrap (N + partsR l[i] (most - N)) = N + partsR l[i] (most - N) := wrap64 (by unfold partsR; omega) (by unfold partsR; omega)
        have hq : l[i] ∈ l := List.getElem_mem hil
        simp -implicitDefEqProofs [hil, hw2, hw3, hw4, hNm, shIT_eq, hq]
        refine ⟨by omega, i + 1, N + partsR l[i] (most - N), le_of [0] (by simp), ⟨by omega, ?_⟩, by omega⟩
        rw [hst]
        unfold partsR
        omega
      · have hw5 : IntKind.i64.wrap (max most 0 + 1) = max most 0 + 1 := wrap64 (by omega) (by omega)
        simp -implicitDefEqProofs [hil, hw2, hNm, shIT_eq, hw5]
        refine seals_int ?_
        have : szs (l.take (i + 1)) ≤ szs l := by
          have e := szs_append (l.take (i + 1)) (l.drop (i + 1))
          rw [List.take_append_drop] at e
          omega
        unfold partsR
        omega
    · have : i = l.length := by omega
      subst this
      rw [szs_full] at hN
      have hw5 : IntKind.i64.wrap (max most 0 + 1) = max most 0 + 1 := wrap64 (by omega) (by omega)
      simp -implicitDefEqProofs [shIT_eq, hw5]
      refine seals_int ?_
      unfold partsR
      omega
termination_by s => SizeOf.sizeOf s
decreasing_by
  have := List.sizeOf_lt_of_mem h.1
  simp
  omega

/-! ### What is looked at -/
mutual
def lightS : Sh → Bool
  | .mk k ns l => decide (ns.length ≤ 60) && (decide (l.length ≤ 700) && (decide (szs l + 1 ≤ 700) && ((ns.all fun n => decide (n.size ≤ 100)) && lightSs l)))
def lightSs : List Sh → Bool
  | [] => true
  | n :: r => lightS n && lightSs r
end
theorem lightSs_all : ∀ l : List Sh, lightSs l = l.all lightS
  | [] => rfl
  | n :: r => by simp [lightSs, lightSs_all r]
mutual
theorem light_lim : ∀ s : Sh, lightS s = true → limS s = true
  | .mk k ns l, h => by
    simp only [lightS, Bool.and_eq_true, decide_eq_true_eq, List.all_eq_true] at h
    obtain ⟨h1, h2, h3, h4, h5⟩ := h
    simp only [limS, Bool.and_eq_true, decide_eq_true_eq, List.all_eq_true]
    exact ⟨by omega, fun n hn => by have := h4 n hn; omega, by omega, light_lims l h5⟩
theorem light_lims : ∀ l : List Sh, lightSs l = true → limSs l = true
  | [], _ => rfl
  | n :: r, h => by
    simp only [lightSs, Bool.and_eq_true] at h
    simp [limSs, light_lim n h.1, light_lims r h.2]
end
theorem light_sz {s : Sh} (h : lightS s = true) : sz s ≤ 700 := by
  obtain ⟨k, ns, l⟩ := s
  simp only [lightS, Bool.and_eq_true, decide_eq_true_eq] at h
  have := h.2.2.1
  rw [sz_eq]
  show szs l + 1 ≤ 700
  omega
theorem light_limP {s : Sh} (h : lightS s = true) : limP s := ⟨light_lim s h, by have := light_sz h; omega⟩

set_option maxHeartbeats 2000000 in
set_option maxRecDepth 10000 in
theorem light_ok : ∀ (s : Sh), FnO Try.prog 10 [.agg (rowS s)] (.ret (tbool lightS s))
  | .mk k ns l => by
    have hp := partsR_ok (.mk k ns l) 700 (by omega) (by omega)
    have hz := sz_eq (.mk k ns l)
    simp only [Sh.kids] at hz
    have hO : FnO Try.prog 10 [.agg (rowS (.mk k ns l))] (.ret (tbool lightS (.mk k ns l))) := by
      have ht := tbC_ok (P := Try.prog) (g := 37) (shIT_ok (q := fun n i => n = .mk k ns l ∧ i = 700) (r := fun n i => .lit (.int .i64 (partsR n i))) (fun n i h => by rw [h.1, h.2]; exact hp) (by simp))
        (tbC_ok (P := Try.prog) (g := 10) (shT_ok (q := fun n => n ∈ l) (fun n hn => light_ok n) (tbool_bel _)) (tb0_ok _))
      refine fnO_wp ht fol Try.func10 rfl (by kernel_rfl) (by simp [Try.ntmps10]) (by kernel_rfl) fun I => ?_
      have e37 := shIT_eq (fun n i => n = .mk k ns l ∧ i = 700) (fun n i => .lit (.int .i64 (partsR n i))) (.mk k ns l) 700
      simp only [rowS] at e37
      by_cases h1 : ns.length ≤ 60
      · by_cases h2 : l.length ≤ 700
        · by_cases h3 : szs l + 1 ≤ 700
          · have h1' : ¬ (60 : Int) < (ns.length : Int) := by omega
            have h2' : ¬ (700 : Int) < (l.length : Int) := by omega
            have h3' : ¬ 700 < partsR (.mk k ns l) 700 := by simp only [partsR]; omega
            simp -implicitDefEqProofs [Try.ntmps10, rowS, e37, h1', h2', h3', shT_eq]
            let hb : List (Nat × Blk) := [(0, .cells 25 none [.lit (.int .i64 k), .sq false 1 (strsD ns), .sq false 3 (rowsS l)])]
            have hsz : ∀ b : ByteArray, (sB b).length = b.size := fun b => by simp [sB]
            refine w_loop (fun i : { i : Nat // i ≤ ns.length ∧ ∀ j (h : j < ns.length), j < i → ns[j].size ≤ 100 } => S.mk 44 [(1, .pt 0 0), (2, .lit (.bool false)), (23, .sq false 1 (strsD ns)), (24, .lit (.int .i64 ns.length)), (25, .lit (.int .i64 i.1))] hb 1 [] none []) (fun i => ns.length - i.1) ⟨0, Nat.zero_le _, fun j _ h => by omega⟩ (le_of [0] (by simp [hb])) fun ⟨i, hi, hall⟩ => wp_ok ht fol _ _ _ (by kernel_rfl) ?_
            have hw : IntKind.i64.wrap ((i : Int) + 1) = (i : Int) + 1 := wrap64 (by omega) (by omega)
            by_cases hil : i < ns.length
            · simp -implicitDefEqProofs [hb, hil, hw, shT_eq]
              rw [hsz]
              refine ⟨fun h5 => seals_bool ?_, fun h5 => ⟨i + 1, le_of [0] (by simp), ⟨by omega, fun j hj h6 => ?_⟩, by omega⟩⟩
              · have : (ns.all fun n => decide (n.size ≤ 100)) = false := by
                  rw [List.all_eq_false]
                  exact ⟨ns[i], List.getElem_mem hil, by simp; omega⟩
                simp only [lightS, this]; simp
              · by_cases h7 : j = i
                · subst h7; omega
                · exact hall j hj (by omega)
            · have : i = ns.length := by omega
              subst this
              have hnall : (ns.all fun n => decide (n.size ≤ 100)) = true := by
                rw [List.all_eq_true]
                intro x hx
                obtain ⟨j, hj, rfl⟩ := List.mem_iff_getElem.1 hx
                simpa using hall j hj hj
              simp -implicitDefEqProofs [hb, shT_eq]
              refine w_loop (fun i : { i : Nat // i ≤ l.length ∧ ∀ j (h : j < l.length), j < i → lightS l[j] = true } => S.mk 44 [(1, .pt 0 0), (2, .lit (.bool false)), (34, .sq false 3 (rowsS l)), (35, .lit (.int .i64 l.length)), (36, .lit (.int .i64 i.1))] hb 1 [] none []) (fun i => l.length - i.1) ⟨0, Nat.zero_le _, fun j _ h => by omega⟩ (le_of [0] (by simp [hb])) fun ⟨i, hi, hall⟩ => wp_ok ht fol _ _ _ (by kernel_rfl) ?_
              have hw : IntKind.i64.wrap ((i : Int) + 1) = (i : Int) + 1 := wrap64 (by omega) (by omega)
              by_cases hil : i < l.length
              · have hq : l[i] ∈ l := List.getElem_mem hil
                simp -implicitDefEqProofs [hb, hil, hw, shT_eq, hq, tbool]
                refine ⟨fun h5 => seals_bool ?_, fun h5 => ⟨i + 1, le_of [0] (by simp), ⟨by omega, fun j hj h6 => ?_⟩, by omega⟩⟩
                · have : lightSs l = false := by
                    rw [lightSs_all, List.all_eq_false]
                    exact ⟨l[i], hq, by simp [h5]⟩
                  simp only [lightS, this]; simp
                · by_cases h7 : j = i
                  · subst h7; exact h5
                  · exact hall j hj (by omega)
              · have : i = l.length := by omega
                subst this
                have hlall : lightSs l = true := by
                  rw [lightSs_all, List.all_eq_true]
                  intro x hx
                  obtain ⟨j, hj, rfl⟩ := List.mem_iff_getElem.1 hx
                  exact hall j hj hj
                simp -implicitDefEqProofs [hb, shT_eq]
                exact seals_bool (by simp only [lightS, hnall, hlall]; simp [h1, h2]; omega)
          · have h1' : ¬ (60 : Int) < (ns.length : Int) := by omega
            have h2' : ¬ (700 : Int) < (l.length : Int) := by omega
            have h3' : 700 < partsR (.mk k ns l) 700 := by simp only [partsR]; omega
            simp -implicitDefEqProofs [Try.ntmps10, rowS, e37, h1', h2', h3', shT_eq]
            exact seals_bool (by simp only [lightS, h3]; simp)
        · have h1' : ¬ (60 : Int) < (ns.length : Int) := by omega
          have h2' : (700 : Int) < (l.length : Int) := by omega
          simp -implicitDefEqProofs [Try.ntmps10, rowS, e37, h1', h2', shT_eq]
          exact seals_bool (by simp only [lightS, h2]; simp)
      · have h1' : (60 : Int) < (ns.length : Int) := by omega
        simp -implicitDefEqProofs [Try.ntmps10, rowS, e37, h1', shT_eq]
        exact seals_bool (by simp only [lightS, h1]; simp)
    exact hO
termination_by s => SizeOf.sizeOf s
decreasing_by
  have := List.sizeOf_lt_of_mem hn
  simp
  omega
end Go.Proofs.Ythlebppdhipanaa
