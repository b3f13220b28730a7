/-
  Parts of texts and slices; lengths; what is reckoned.
-/
import Derived.Test.YtgpmcnakeeahbabGreatAwH
import Derived.Lib.Strings
namespace Go.Aw

/-! ### x[lo:hi:max] -/
def boundD : Option D → Option (Option Int)
  | none => some none
  | some (.i (.lit (.int _ n))) => some (some n)
  | _ => none

def cutL {α : Type} (l : List α) (a b : Int) : List α := (l.drop a.toNat).take (b.toNat - a.toNat)

def sliceP (P : Program) (t : TypeId) (x : D) (lo hi mx : Option D) (K : D → Prop) : Prop :=
  match tiOf P t, boundD lo, boundD hi, boundD mx with
  | some ti, some l, some h, some m => (match ti.k, x with
    | .str, .i (.lit (.string b)) => (match m with
      | none => 0 ≤ l.getD 0 ∧ l.getD 0 ≤ h.getD ((sB b).length : Int) ∧ h.getD ((sB b).length : Int) ≤ ((sB b).length : Int) ∧
          K (.str (cutL (sB b) (l.getD 0) (h.getD ((sB b).length : Int))))
      | some _ => False)
    | .sl e, .i (.sl f sz rows) => (match tiOf P e with
      | some te => te.size = sz ∧ 0 ≤ l.getD 0 ∧ l.getD 0 ≤ h.getD (rows.length : Int) ∧ (match m with
        | none => h.getD (rows.length : Int) ≤ (rows.length : Int) ∧
            K (.i (.sl (f && decide (h.getD (rows.length : Int) = (rows.length : Int))) sz (cutL rows (l.getD 0) (h.getD (rows.length : Int)))))
        | some mm => (∃ hh, h = some hh) ∧ h.getD (rows.length : Int) ≤ mm ∧ mm ≤ (rows.length : Int) ∧
            K (.i (.sl (decide (h.getD (rows.length : Int) = mm)) sz (cutL rows (l.getD 0) (h.getD (rows.length : Int))))))
      | none => False)
    | _, _ => False)
  | _, _, _, _ => False

theorem boundD_spec {M : Mem} {w : World} {x : Option D} {v : Option Value} {b : Option Int} (h : boundD x = some b) (hv : ∀ d, x = some d → ∃ u, v = some u ∧ R M w d u) (hn : x = none → v = none) :
    (b = none ∧ v = none) ∨ ∃ n k, b = some n ∧ v = some (.int k n) := by
  unfold boundD at h
  split at h
  · cases h; exact .inl ⟨rfl, hn rfl⟩
  · rename_i k n
    cases h
    obtain ⟨u, hu, hr⟩ := hv _ rfl
    cases hr with
    | i _ _ hr =>
    cases hr
    exact .inr ⟨n, k, rfl, hu⟩
  · cases h

theorem cutL_length {α : Type} (l : List α) (a b : Int) (h0 : 0 ≤ a) (h1 : a ≤ b) (h2 : b ≤ (l.length : Int)) : ((cutL l a b).length : Int) = b - a := by
  simp only [cutL, List.length_take, List.length_drop]
  omega

theorem cutL_get {α : Type} {l : List α} {a b : Int} {k : Nat} {x : α} (h : (cutL l a b)[k]? = some x) : l[a.toNat + k]? = some x := by
  have hk : k < b.toNat - a.toNat := by
    have := (List.getElem?_eq_some_iff.1 h).1
    simp only [cutL, List.length_take] at this
    omega
  rw [cutL, List.getElem?_take_of_lt hk, List.getElem?_drop] at h
  exact h

theorem sliceBound_run {P : Program} {w : World} (k : IntKind) (i : Int) (y : Nat) (code : BoundsCode) (h0 : 0 ≤ i) (h1 : i ≤ (y : Int)) : (Instr.sliceBound (.int k i) y code).run P w = .ok i.toNat w := by
  simp [Instr.sliceBound, asIntOf, h0, h1]

theorem sliceBounds_run {P : Program} {w : World} (isS : Bool) (len cap : Nat) (lo hi mx : Option Value) (l h m : Option Int)
    (hl : (l = none ∧ lo = none) ∨ ∃ n k, l = some n ∧ lo = some (.int k n)) (hh : (h = none ∧ hi = none) ∨ ∃ n k, h = some n ∧ hi = some (.int k n)) (hm : (m = none ∧ mx = none) ∨ ∃ n k, m = some n ∧ mx = some (.int k n))
    (h0 : 0 ≤ l.getD 0) (h1 : l.getD 0 ≤ h.getD (len : Int)) (h2 : h.getD (len : Int) ≤ m.getD (cap : Int)) (h3 : m.getD (cap : Int) ≤ (cap : Int)) (h4 : m ≠ none → h ≠ none) :
    (Instr.sliceBounds isS len cap lo hi mx).run P w = .ok ((l.getD 0).toNat, (h.getD (len : Int)).toNat, (m.getD (cap : Int)).toNat) w := by
  unfold Instr.sliceBounds
  rcases hm with ⟨rfl, rfl⟩ | ⟨mn, mk, rfl, rfl⟩
  · rcases hh with ⟨rfl, rfl⟩ | ⟨hn, hk, rfl, rfl⟩ <;> rcases hl with ⟨rfl, rfl⟩ | ⟨ln, lk, rfl, rfl⟩ <;> simp only [Option.getD_none, Option.getD_some] at h0 h1 h2 h3 ⊢
    · simp
    · simp [sliceBound_run (P := P) (w := w) lk ln len _ h0 h1]
    · have e1 : (hn.toNat : Int) = hn := by omega
      simp [sliceBound_run (P := P) (w := w) hk hn cap _ (by omega) h2]
    · have e1 : (hn.toNat : Int) = hn := by omega
      simp [sliceBound_run (P := P) (w := w) hk hn cap _ (by omega) h2, sliceBound_run (P := P) (w := w) lk ln hn.toNat _ h0 (by omega)]
  · rcases hh with ⟨rfl, rfl⟩ | ⟨hn, hk, rfl, rfl⟩
    · exact absurd rfl (h4 (by simp))
    · rcases hl with ⟨rfl, rfl⟩ | ⟨ln, lk, rfl, rfl⟩ <;> simp only [Option.getD_none, Option.getD_some] at h0 h1 h2 h3 ⊢
      · simp [sliceBound_run (P := P) (w := w) mk mn cap _ (by omega) h3, sliceBound_run (P := P) (w := w) hk hn mn.toNat _ (by omega) (by omega)]
      · simp [sliceBound_run (P := P) (w := w) mk mn cap _ (by omega) h3, sliceBound_run (P := P) (w := w) hk hn mn.toNat _ (by omega) (by omega), sliceBound_run (P := P) (w := w) lk ln hn.toNat _ h0 (by omega)]

theorem slice_ok {P : Program} {M : Mem} {w : World} {t : TypeId} {x : D} {lo hi mx : Option D} {K : D → Prop} (h : sliceP P t x lo hi mx K) {v : Value} {vl vh vm : Option Value} (hv : R M w x v)
    (hl : ∀ d, lo = some d → ∃ u, vl = some u ∧ R M w d u) (hl' : lo = none → vl = none) (hh : ∀ d, hi = some d → ∃ u, vh = some u ∧ R M w d u) (hh' : hi = none → vh = none)
    (hm : ∀ d, mx = some d → ∃ u, vm = some u ∧ R M w d u) (hm' : mx = none → vm = none) : ∃ y q, (Instr.sliceAt t v vl vh vm).run P w = .ok q w ∧ R M w y q ∧ K y := by
  unfold sliceP at h
  split at h
  case h_2 => exact h.elim
  rename_i ti l hb m hti el eh em
  obtain ⟨it, dt, zt, ht⟩ := tiOf_spec hti
  have sl := boundD_spec el hl hl'
  have sh := boundD_spec eh hh hh'
  have sm := boundD_spec em hm hm'
  split at h
  · rename_i b hk
    have hts := und_str ht hk
    split at h
    case h_2 => exact h.elim
    obtain ⟨h0, h1, h2, hK⟩ := h
    cases hv with
    | i _ _ hv =>
    cases hv with
    | lit _ hlo =>
    rw [sB_length] at h1 h2 hK
    have hr := sliceBounds_run (P := P) (w := w) false b.size b.size vl vh none l hb none sl sh (.inl ⟨rfl, rfl⟩) h0 h1 h2 (Int.le_refl _) (by simp)
    have hvm : vm = none := by
      rcases sm with ⟨_, h⟩ | ⟨_, _, h, _⟩
      · exact h
      · cases h
    subst hvm
    refine ⟨_, .string (b.extract (l.getD 0).toNat (hb.getD (b.size : Int)).toNat), ?_, ?_, hK⟩
    · simp only [Instr.sliceAt, Sem.run_bind, run_underlying hts, Result.andThen_ok, Instr.slice, Option.isSome_none, Bool.false_eq_true, if_false, hr, Sem.run_pure]
    · rw [Lib.extract_eq]
      refine .i _ _ (.lit _ ?_)
      have hs : b.size ≤ maxLen := hlo
      show (ByteArray.mk (List.toArray _)).size ≤ maxLen
      simp only [ByteArray.size, List.size_toArray, cutL, sB, List.length_take, List.length_drop, Array.length_toList]
      have : b.data.size = b.size := rfl
      omega
  · rename_i e f sz rows hk
    have hte := und_sl ht hk
    split at h
    case h_2 => exact h.elim
    rename_i te hte'
    obtain ⟨ie, de, ze, hie⟩ := tiOf_spec hte'
    obtain ⟨rfl, h0, h1, h⟩ := h
    cases hv with
    | i _ _ hv =>
    have fin : ∀ (full : Bool), (h2 : hb.getD (rows.length : Int) ≤ (rows.length : Int)) → (m ≠ none → hb ≠ none) → (∀ mm, m = some mm → hb.getD (rows.length : Int) ≤ mm ∧ mm ≤ (rows.length : Int)) →
        (full = true → (m = none ∧ f = true ∧ hb.getD (rows.length : Int) = (rows.length : Int)) ∨ m = some (hb.getD (rows.length : Int))) →
        ∃ q, (Instr.sliceAt t v vl vh vm).run P w = .ok q w ∧ R M w (.i (.sl full te.size (cutL rows (l.getD 0) (hb.getD (rows.length : Int))))) q := by
      intro full h2 h4 h5 hfull
      cases hv with
      | nil =>
        simp only [List.length_nil, Int.natCast_zero] at h1 h2 h5
        have hmg : m.getD (0 : Int) = 0 := by
          cases hm2 : m with
          | none => rfl
          | some mm => have := h5 mm hm2; simp; omega
        have hr := sliceBounds_run (P := P) (w := w) true 0 0 vl vh vm l hb m sl sh sm h0 h1 (by simp only [Int.natCast_zero]; omega) (by simp only [Int.natCast_zero]; omega) h4
        simp only [Int.natCast_zero] at hr
        have e1 : l.getD 0 = 0 := by omega
        have e2 : hb.getD (0 : Int) = 0 := by omega
        refine ⟨.slice none 0 0, ?_, ?_⟩
        · simp only [Instr.sliceAt, Sem.run_bind, run_underlying hte, Result.andThen_ok, Instr.slice, hr, run_sizeOf hie, Sem.run_pure, e1, e2, hmg]
          rfl
        · simp only [List.length_nil, Int.natCast_zero, e1, e2]
          exact .i _ _ (.nil _ _)
      | sl f sz rows b off cap V hbS hn hc hf hz g1 g2 =>
        have hcap : m.getD (cap : Int) ≤ (cap : Int) := by
          cases hm2 : m with
          | none => exact Int.le_refl _
          | some mm => have := h5 mm hm2; simp; omega
        have hhm : hb.getD (rows.length : Int) ≤ m.getD (cap : Int) := by
          cases hm2 : m with
          | none => simp; omega
          | some mm => have := h5 mm hm2; simp; omega
        have hr := sliceBounds_run (P := P) (w := w) true rows.length cap vl vh vm l hb m sl sh sm h0 h1 hhm hcap h4
        have hlen : (cutL rows (l.getD 0) (hb.getD (rows.length : Int))).length = (hb.getD (rows.length : Int)).toNat - (l.getD 0).toNat := by
          have := cutL_length rows (l.getD 0) (hb.getD (rows.length : Int)) h0 h1 h2
          omega
        generalize hcut : cutL rows (l.getD 0) (hb.getD (rows.length : Int)) = cut at hlen
        by_cases hmc : (m.getD (cap : Int)).toNat = (l.getD 0).toNat
        · have hce : cut = [] := List.eq_nil_of_length_eq_zero (by omega)
          subst hce
          refine ⟨.slice (some ⟨b, off, none⟩) 0 0, ?_, ?_⟩
          · simp only [Instr.sliceAt, Sem.run_bind, run_underlying hte, Result.andThen_ok, Instr.slice, hr, run_sizeOf hie, Sem.run_pure]
            rw [if_pos hmc, ← hlen, hmc]
            simp
          · exact .i _ _ (.sl full te.size [] b off 0 V hbS (Nat.le_refl _) (Nat.zero_le _) (fun _ => rfl) (by simp) (by simp) (by simp))
        · refine ⟨.slice (some ⟨b, off + (l.getD 0).toNat * te.size, none⟩) cut.length ((m.getD (cap : Int)).toNat - (l.getD 0).toNat), ?_, ?_⟩
          · simp only [Instr.sliceAt, Sem.run_bind, run_underlying hte, Result.andThen_ok, Instr.slice, hr, run_sizeOf hie, Sem.run_pure]
            rw [if_neg hmc, ← hlen]
            simp [addr_add]
          · refine .i _ _ (.sl full te.size cut b (off + (l.getD 0).toNat * te.size) _ (fun i j => V ((l.getD 0).toNat + i) j) hbS (by omega) (by omega) ?_ ?_ ?_ ?_)
            · intro hfl
              rcases hfull hfl with ⟨rfl, rfl, h6⟩ | rfl
              · have := hf rfl
                simp only [Option.getD_none]
                omega
              · simp only [Option.getD_some]
                omega
            · intro r hr'
              rw [← hcut, cutL] at hr'
              exact hz r (List.mem_of_mem_drop (List.mem_of_mem_take hr'))
            · intro i r j x hi hj
              rw [← hcut] at hi
              have := g1 _ r j x (cutL_get hi) hj
              rw [Nat.add_mul] at this
              rw [Nat.add_assoc off]
              exact this
            · intro i r j x hi hj
              rw [← hcut] at hi
              exact g2 _ r j x (cutL_get hi) hj
    split at h
    · obtain ⟨h2, hK⟩ := h
      obtain ⟨q, hq1, hq2⟩ := fin (f && decide (hb.getD (rows.length : Int) = (rows.length : Int))) h2 (by simp) (by simp) (fun hf => by simp only [Bool.and_eq_true, decide_eq_true_eq] at hf; exact .inl ⟨rfl, hf.1, hf.2⟩)
      exact ⟨_, q, hq1, hq2, hK⟩
    · rename_i mm
      obtain ⟨⟨hh', he⟩, h2, h3, hK⟩ := h
      obtain ⟨q, hq1, hq2⟩ := fin (decide (hb.getD (rows.length : Int) = mm)) (by omega) (by rw [he]; simp) (fun mm' hmm => by cases hmm; exact ⟨h2, h3⟩) (fun hf => by simp only [decide_eq_true_eq] at hf; exact .inr (by rw [hf]))
      exact ⟨_, q, hq1, hq2, hK⟩
  · exact h.elim

/-! ### len -/
def lenP (P : Program) (s : St) (t : TypeId) (x : D) (K : D → Prop) : Prop :=
  match tiOf P t with
  | some ti => (match ti.k, x with
    | .str, .i (.lit (.string b)) => K (.int ((sB b).length : Int))
    | .sl _, .i (.sl _ _ rows) => K (.int (rows.length : Int))
    | .sl _, .i (.lit (.slice none 0 0)) => K (.int 0)
    | .sl _, .os l => (match hlook s.hp l with
      | some (.arr _ _ rows) => K (.int (rows.length : Int))
      | _ => False)
    | .arr n _, _ => K (.int (n : Int))
    | _, _ => False)
  | none => False

theorem len_ok {P : Program} {M : Mem} {s : St} {w : World} {a : Act} (hr : Rep M s w a) {t ty : TypeId} {x : D} {K : D → Prop} (h : lenP P s t x K) {v : Value} (hv : R M w x v) :
    ∃ y q, (Builtin.len_ #[t] ty #[v]).run P w = .ok q w ∧ R M w y q ∧ K y := by
  unfold lenP at h
  split at h
  case h_2 => exact h.elim
  rename_i ti hti
  obtain ⟨it, dt, zt, ht⟩ := tiOf_spec hti
  have lit : ∀ n : Int, R M w (.int n) (goInt n) := fun n => .i _ _ (.lit _ trivial)
  split at h
  · rename_i b hk
    have hts := und_str ht hk
    cases hv with
    | i _ _ hv =>
    cases hv
    rw [sB_length] at h
    exact ⟨_, _, by simp [Builtin.len_, run_underlying hts], lit _, h⟩
  · rename_i e f sz rows hk
    have hte := und_sl ht hk
    cases hv with
    | i _ _ hv =>
    cases hv with
    | nil => exact ⟨_, _, by simp [Builtin.len_, run_underlying hte], lit _, h⟩
    | sl => exact ⟨_, _, by simp [Builtin.len_, run_underlying hte], lit _, h⟩
  · rename_i e hk
    have hte := und_sl ht hk
    cases hv with
    | i _ _ hv =>
    cases hv
    exact ⟨_, _, by simp [Builtin.len_, run_underlying hte], lit _, h⟩
  · rename_i e l hk
    have hte := und_sl ht hk
    split at h
    case h_2 => exact h.elim
    rename_i ty' sz rows hds
    cases hv with
    | os _ _ hl hone =>
    have hbb := hr.hp l _ hds
    rw [hl] at hbb
    obtain ⟨xs, ho, _⟩ := hbb
    rcases own_slice ho with ⟨rfl, hn⟩ | ⟨g, c, rfl, _⟩
    · rw [hn] at h
      exact ⟨_, _, by simp [Builtin.len_, run_underlying hte], lit _, h⟩
    · exact ⟨_, _, by simp [Builtin.len_, run_underlying hte], lit _, h⟩
  · rename_i n e hk
    have hte := und_arr ht hk
    exact ⟨_, _, by simp [Builtin.len_, run_underlying hte], lit _, h⟩
  · exact h.elim

end Go.Aw
