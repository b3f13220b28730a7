/-
  The text of a shape: the walk.
-/
import Derived.Test.YthlebppdhipanaaShR
set_option linter.all false
namespace Go.Proofs.Ythlebppdhipanaa
open Go.Ev
open Go.Aw (tiOf fieldsOf sB)

noncomputable def tsT (q : List Sh → Prop) : List D → Option (Prop × D) := ctr (fun l : List Sh => [.sq false 3 (rowsS l)]) q (fun l => .sq false 1 (strsD (l.map txt)))
theorem tsT_eq (q : List Sh → Prop) (l : List Sh) : tsT q [.sq false 3 (rowsS l)] = some (q l, .sq false 1 (strsD (l.map txt))) := ctr_enc (fun a b h => by simp at h; exact rowsS_inj _ _ h) l
structure JA where
  o : ByteArray
  xs : List ByteArray
  b : ByteArray
  e : ByteArray
noncomputable def jnT : List D → Option (Prop × D) := ctr (fun p : JA => [.lit (.string p.o), .sq false 1 (strsD p.xs), .lit (.string p.b), .lit (.string p.e)]) (fun p => p.xs.length ≤ 1000000 ∧ (jnB p.o p.xs p.b p.e).size ≤ 140737488355328) (fun p => .lit (.string (jnB p.o p.xs p.b p.e)))
theorem jnT_eq (o : ByteArray) (xs : List ByteArray) (b e : ByteArray) : jnT [.lit (.string o), .sq false 1 (strsD xs), .lit (.string b), .lit (.string e)] = some (xs.length ≤ 1000000 ∧ (jnB o xs b e).size ≤ 140737488355328, .lit (.string (jnB o xs b e))) :=
  ctr_enc (fun a b h => by
    cases a; cases b
    simp at h
    obtain ⟨h1, h2, h3, h4⟩ := h
    rw [h1, strsD_inj _ _ h2, h3, h4]) (⟨o, xs, b, e⟩ : JA)
theorem jnT_ok : ∀ xs p d, jnT xs = some (p, d) → p → FnO Try.prog 80 xs (.ret d) ∧ D.belL 0 xs = true ∧ D.bel 0 d = true :=
  ctr_ok fun p hp => ⟨jn_ok p.o p.xs p.b p.e hp.1 hp.2, by simp, by simp⟩

theorem txt_map (l : List Sh) : (l.map txt).map sB = textsL l := by
  induction l with
  | nil => rfl
  | cons x r ih => simp [textsL, ih, txt, ← bA.eq_def]
theorem partsLs_mem {l : List Sh} {x : Sh} (h : x ∈ l) : (partsL x).length ≤ (partsLs l).length := by
  induction l with
  | nil => simp at h
  | cons y r ih =>
    rw [partsLs, List.length_append]
    rcases List.mem_cons.1 h with rfl | h
    · omega
    · have := ih h; omega

theorem sB_size (s : ByteArray) : (sB s).length = s.size := by simp [sB]
theorem textsL_map : ∀ l : List Sh, textsL l = l.map textL
  | [] => rfl
  | x :: r => by simp [textsL, textsL_map r]
theorem fun_eq {k : Int} {ns : List ByteArray} {l : List Sh} {n : Nat} (hk : ¬ (1 ≤ k ∧ k ≤ 5)) (h8 : ¬ k = 8) (h6 : ¬ k = 6) (hn : l.length = n + 1) : (sB (jnB ⟨#[40]⟩ (List.take n (l.map txt)) ⟨#[44]⟩ ⟨#[41, 45, 62]⟩) ++ sB (txt (l[n]'(by omega)))) = textL (.mk k ns l) := by
  have hn1 : ¬ k = 1 := by omega
  have hn2 : ¬ k = 2 := by omega
  have hn3 : ¬ k = 3 := by omega
  have hn4 : ¬ k = 4 := by omega
  have hn5 : ¬ k = 5 := by omega
  have e1 : (List.take n (l.map txt)).map sB = (textsL l).dropLast := by
    rw [List.map_take, txt_map, List.dropLast_eq_take, textsL_length, hn]
    rfl
  have e2 : (textsL l).getLastD [] = textL (l[n]'(by omega)) := by
    have e0 : l.length - 1 = n := by omega
    rw [List.getLastD_eq_getLast?, List.getLast?_eq_getElem?, textsL_length, e0, textsL_map]
    simp [List.getElem?_eq_getElem (show n < l.length by omega)]
  have e3 : sB (txt (l[n]'(by omega))) = textL (l[n]'(by omega)) := rfl
  unfold textL
  simp only [hn1, hn2, hn3, hn4, hn5, h8, h6, if_false, e2]
  rw [jnB, sB_bA, e1, e3]
  rfl

set_option maxHeartbeats 2000000 in
set_option maxRecDepth 20000 in
theorem text_ok : ∀ s : Sh, okT s = true → (partsL s).length ≤ 1000000 → FnO Try.prog 46 [.agg (rowS s)] (.ret (.lit (.string (txt s))))
  | .mk k ns l, h, hp => by
    have hlen := textL_len _ h
    have hts := textsL_length l
    simp only [okT, Bool.or_eq_true, Bool.and_eq_true, decide_eq_true_eq, List.all_eq_true] at h
    have hpl : (partsLs l).length ≤ 1000000 := by rw [partsL, List.length_cons] at hp; omega
    by_cases hk : 1 ≤ k ∧ k ≤ 5
    · have ht := tb0_ok Try.prog
      refine fnO_wp ht fol Try.func46 rfl (by kernel_rfl) (by simp [Try.ntmps46]) (by kernel_rfl) fun I => ?_
      have : k = 1 ∨ k = 2 ∨ k = 3 ∨ k = 4 ∨ k = 5 := by omega
      rcases this with rfl | rfl | rfl | rfl | rfl
      all_goals
        simp -implicitDefEqProofs [Try.ntmps46, rowS]
        simp only [txt, textL]
        exact .same _ (by simp)
    · obtain ⟨h1, h2, h3, h4, h5⟩ := h.resolve_left hk
      have h46 : ∀ n, n ∈ l → FnO Try.prog 46 [.agg (rowS n)] (.ret (.lit (.string (txt n)))) := fun n hn => text_ok n (okTs_mem h1 n hn) (by have := partsLs_mem hn; omega)
      have ht46 := tbC_ok (P := Try.prog) (g := 46) (f := txT (fun n => n ∈ l)) (ctr_ok fun n hn => ⟨h46 n hn, by simp, by simp⟩) (tb0_ok _)
      have ht80 := tbC_ok (P := Try.prog) jnT_ok ht46
      have ht81 := tbC_ok (P := Try.prog) (g := 81) (f := tsT (fun m => m.length ≤ 1000 ∧ ∀ n ∈ m, n ∈ l)) (ctr_ok fun m hm => ⟨texts_ok (fun n => n ∈ l) h46 false m hm.1 hm.2, by simp, by simp⟩) ht80
      by_cases hk8 : k = 8
      · subst hk8
        refine fnO_wp ht81 fol Try.func46 rfl (by kernel_rfl) (by simp [Try.ntmps46]) (by kernel_rfl) fun I => ?_
        simp -implicitDefEqProofs [Try.ntmps46, rowS, tsT_eq, jnT_eq, h2]
        have e : jnB ⟨#[91]⟩ (l.map txt) ⟨#[124]⟩ ⟨#[93]⟩ = txt (.mk 8 ns l) := by
          have hm := txt_map l
          simp [jnB, txt, textL, bA, hm]
          try simp [sB]
        rw [e]
        have e2 : (txt (.mk 8 ns l)).size = (textL (.mk 8 ns l)).length := by simp [txt, ByteArray.size]
        exact ⟨⟨by omega, by omega⟩, .same _ (by simp)⟩
      · by_cases hk6 : k = 6
        · subst hk6
          have hsz : ∀ n ∈ l, (txt n).size ≤ 2000000000000 := fun n hn => by
            have a1 := textL_len n (okTs_mem h1 n hn)
            have a2 := partsLs_mem hn
            have a3 : (txt n).size = (textL n).length := by simp [txt, ByteArray.size]
            omega
          have e2 : (txt (.mk 6 ns l)).size = (textL (.mk 6 ns l)).length := by simp [txt, ByteArray.size]
          exact rec_ok ns l h2 (by simpa using h5) h4 hsz (by omega) h46
        · refine fnO_wp ht81 fol Try.func46 rfl (by kernel_rfl) (by simp [Try.ntmps46]) (by kernel_rfl) fun I => ?_
          have hn1 : ¬ k = 1 := by omega
          have hn2 : ¬ k = 2 := by omega
          have hn3 : ¬ k = 3 := by omega
          have hn4 : ¬ k = 4 := by omega
          have hn5 : ¬ k = 5 := by omega
          have h0 : 0 < l.length := by simpa [hk8, hk6] using h5
          obtain ⟨n, hn⟩ : ∃ n, l.length = n + 1 := ⟨l.length - 1, by omega⟩
          have e1 : IntKind.i64.wrap ((l.length : Int) - 1) = (n : Int) := by rw [wrap64 (by omega) (by omega)]; omega
          have e1' : IntKind.i64.wrap (((n + 1 : Nat) : Int) - 1) = (n : Int) := by rw [wrap64 (by omega) (by omega)]; omega
          have e2 : Aw.cutL (rowsS l) 0 (n : Int) = rowsS (l.take n) := by
            simp [Aw.cutL, rowsS_map]
          have hnl : n < l.length := by omega
          have e3 : ∀ x ∈ l.take n, x ∈ l := fun x hx => List.mem_of_mem_take hx
          have e4 : (l.take n).length ≤ 1000 := by simp; omega
          have e5 : ((n : Int) < (l.length : Int)) := by omega
          have e6 : ((n : Int) ≤ (l.length : Int)) := by omega
          simp -implicitDefEqProofs [Try.ntmps46, rowS, tsT_eq, jnT_eq, txT_eq, h2, hn1, hn2, hn3, hn4, hn5, hk6, hk8, e1, e2, e5, e6, hnl]
          have e7 := fun_eq (ns := ns) hk hk8 hk6 hn
          have e8 : (sB (jnB ⟨#[40]⟩ (List.take n (l.map txt)) ⟨#[44]⟩ ⟨#[41, 45, 62]⟩)).length + (sB (txt l[n])).length = (textL (.mk k ns l)).length := by rw [← e7, List.length_append]
          have e9 : (jnB ⟨#[40]⟩ (List.take n (l.map txt)) ⟨#[44]⟩ ⟨#[41, 45, 62]⟩).size = (sB (jnB ⟨#[40]⟩ (List.take n (l.map txt)) ⟨#[44]⟩ ⟨#[41, 45, 62]⟩)).length := (sB_size _).symm
          rw [e7, e9]
          exact ⟨⟨by omega, e3⟩, ⟨by omega, by omega⟩, by omega, .same _ (by simp)⟩
termination_by s => SizeOf.sizeOf s
decreasing_by
  have := List.sizeOf_lt_of_mem hn
  simp
  omega
end Go.Proofs.Ythlebppdhipanaa
