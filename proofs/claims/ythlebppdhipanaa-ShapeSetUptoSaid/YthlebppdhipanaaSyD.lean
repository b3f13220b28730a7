/-
  append, upon symbolic data.
-/
import Derived.Test.YthlebppdhipanaaSyC
set_option linter.all false
namespace Go.Ev
open Go.Aw (litOk Z TK TI kOf tiOf TIs tiOf_spec WF addr_add und_sl und_str und_arr sB sB_length halloc_old halloc_new getD_toArray_append3 get_append3)

theorem RH.fewer {M : Mem} {h h' : H} {w : World} (hr : RH M h w) (hg : ∀ l k, h'.hp.get l = some k → h.hp.get l = some k) (hn : h'.nx = h.nx) : RH M h' w :=
  ⟨hr.inv, fun l k e => hr.hp l k (hg l k e), hn.trans hr.nx⟩

/-- A new name of an own slice that holds nothing. -/
theorem RH.newNil {M : Mem} {h : H} {w : World} (hr : RH M h w) (ty : TypeId) (sz : Nat) : RH (M.set h.nx .nil (h.nx + 1)) { hp := h.hp.set h.nx (.cells ty (some sz) []), nx := h.nx + 1 } w ∧ Ext M w (M.set h.nx .nil (h.nx + 1)) w := by
  have hsame : ∀ l, l < M.nx → (M.set h.nx .nil (h.nx + 1)).μ l = M.μ l := fun l hl => by
    have : l ≠ h.nx := by rw [hr.nx]; omega
    simp [Mem.set, this]
  have hle : M.le (M.set h.nx .nil (h.nx + 1)) := ⟨by simp [Mem.set, hr.nx], fun l hl => .inl (hsame l hl), fun _ _ h => h⟩
  have old : ∀ l b c, (M.set h.nx .nil (h.nx + 1)).μ l = .blk b c → M.μ l = .blk b c := fun l b c e => by
    simp only [Mem.set] at e
    split at e
    · cases e
    · exact e
  refine ⟨⟨⟨fun l l' b c c' e e' => hr.inv.inj l l' b c c' (old _ _ _ e) (old _ _ _ e'), fun l b c e => hr.inv.lt l b c (old _ _ _ e), fun l b c e => ?_, hr.inv.fz, fun b q e l k e' => hr.inv.sep b q e l k (old _ _ _ e')⟩, fun l k e => ?_, rfl⟩,
    ⟨rfl, rfl, rfl, Nat.le_refl _, fun _ _ _ => rfl, fun l b c e => .inl ⟨l, c, old _ _ _ e⟩, hle.nx, fun l hl => .inl (hsame l hl), fun _ _ h => h, fun _ _ h => .inl h, fun l hl e => (hsame l hl).trans e⟩⟩
  · have := hr.inv.nx l b c (old _ _ _ e)
    simp only [Mem.set]; rw [hr.nx]; omega
  · simp only [T.get_set] at e
    by_cases e1 : h.nx = l
    · subst e1
      rw [if_pos rfl] at e
      cases e
      simp only [Mem.set, if_true]
      exact ⟨_, _, rfl⟩
    · rw [if_neg e1] at e
      have := (hr.hp l k e).mono hle (w' := w) (fun _ _ _ => rfl)
      rw [show (M.set h.nx .nil (h.nx + 1)).μ l = M.μ l by simp only [Mem.set]; rw [if_neg (fun q => e1 q.symm)]]
      exact this

theorem ow_of_sl {M : Mem} {l n b k : Nat} (h : R M (.sl l 0 n none) (.slice (some ⟨b, 0, none⟩) n k)) : R M (.ow l n) (.slice (some ⟨b, 0, none⟩) n k) := by
  cases h with
  | sl _ _ _ _ _ _ ha hk h0 hn hm =>
  exact .ow _ _ _ ⟨ha.1, ⟨_, _, rfl, hn, hm, fun _ => ⟨b, rfl⟩, fun b' c' e => ⟨by rw [ha.2.1 b' c' e], h0 rfl rfl b' c' e⟩, fun e => absurd e ha.2.2.1⟩, ha.2.2.2⟩

/-- Onto an own slice. -/
theorem append_ow {P : Program} {M : Mem} {h : H} {w : World} (hr : RH M h w) {t tx ty e : TypeId} {ti : TI} {i : TypeInfo} {dd : TypeDesc} {z : Value} (hte : P.underlying t = some (.slice e)) (hi : TIs P e ti i dd z) (hsz : 0 < ti.size)
    {l n m : Nat} {ds dnews : List D} {news : List Value} (hg : h.hp.get l = some (.cells e (some ti.size) ds)) (hdl : ds.length = n * ti.size) {v u : Value} (hv : R M (.ow l n) v) (hS : SrcD P M ti.size tx u m dnews news w)
    (hb : (n + m) * ti.bytes ≤ 140737488355328) (hm : n + m ≤ 9223372036854775807) :
    ∃ q w' M', (Builtin.append_ #[t, tx] ty #[v, u]).run P w = .ok q w' ∧ RH M' { hp := (h.hp.del l).set h.nx (.cells e (some ti.size) (ds ++ dnews)), nx := h.nx + 1 } w' ∧ R M' (.ow h.nx (n + m)) q ∧ Ext M w M' w' := by
  cases hv with
  | ow _ _ _ hw =>
  obtain ⟨a, k, rfl, hnk, hkm, hpos, hblk, hnil⟩ := hw.val
  have hll : l < h.nx := by rw [hr.nx]; exact hw.lt
  have hSs := hS.src
  rw [← hi.size] at hSs
  have hnl : news.length = m * ti.size := by rw [hS.src.newsLen]
  have few : ∀ (x : Blk) (r : Nat) (q : Blk), ((h.hp.del l).set h.nx x).get r = some q → (h.hp.set h.nx x).get r = some q := fun x r q e => by
    rw [T.get_set] at e ⊢
    by_cases hx : h.nx = r
    · rw [if_pos hx] at e ⊢; exact e
    · rw [if_neg hx, T.get_del] at e
      rw [if_neg hx]
      split at e
      · cases e
      · exact e
  have hp := hr.hp l _ hg
  have nothing : m = 0 → (Builtin.append_ #[t, tx] ty #[.slice a n k, u]).run P w = .ok (.slice a n k) w := fun hm0 => by
    subst hm0
    have hn : news = [] := List.eq_nil_of_length_eq_zero (by simpa using hnl)
    subst hn
    rcases hSs.kind with ⟨e', hk⟩ | hk <;> cases a <;> simp [Builtin.append_, run_underlying hte, run_underlying hk, sizeOf, typeInfo, hi.info, hSs.len, hnk, hSs.cells, storeCells]
  have hd0 : m = 0 → dnews = [] := fun hm0 => List.eq_nil_of_length_eq_zero (by rw [← hS.len, hnl, hm0]; simp)
  cases hμ : M.μ l with
  | dead => rw [hμ] at hp; exact hp.elim
  | res => exact absurd hμ hw.nres
  | nil =>
    rw [hμ] at hp
    obtain ⟨_, _, hp⟩ := hp
    injection hp with _ _ hds
    subst hds
    obtain ⟨rfl, rfl⟩ := hnil hμ
    by_cases hm0 : m = 0
    · have := hd0 hm0
      subst hm0 this
      obtain ⟨g1, g2⟩ := hr.newNil e ti.size
      refine ⟨_, w, _, nothing rfl, g1.fewer (few _) rfl, .ow _ _ _ ⟨by simp [Mem.set], ⟨a, 0, rfl, Nat.le_refl _, Nat.zero_le _, fun x => by omega, fun b c e => by simp [Mem.set] at e, fun _ => ⟨rfl, rfl⟩⟩, by simp [Mem.set]⟩, g2⟩
    · have hfc : (Builtin.firstCells i.size 0 (.slice a 0 0)).run P w.drew = .ok (#[] : Array Value) w.drew := by
        cases a with
        | none => exact run_firstCells_none w.drew i.size 0 0 0
        | some a => exact run_firstCells_some w.drew i.size 0 a 0 0 [] (by simp) (by simp)
      simp only [Nat.zero_add] at hb hm ⊢
      have hrun := run_append_grow_src (P := P) w t tx ty e i z hte hi.info hi.zero a 0 0 [] hfc u m news hSs (by omega) (by omega) (growslice_fits (by omega) (by rw [hi.bytes]; simpa using hb))
      simp only [Nat.zero_add, List.nil_append] at hrun
      obtain ⟨M', g1, g2, g3⟩ := grow_new (P := P) hr e hi m 0 news dnews hnl hS.len hS.at_ (by simpa [maxLen] using hm)
      exact ⟨_, _, M', hrun, g1.fewer (few _) rfl, ow_of_sl g2, g3⟩
  | blk b c =>
    rw [hμ] at hp
    obtain ⟨rfl, rfl⟩ := hblk b c hμ
    obtain ⟨cur, hc1, ⟨hc2, hc2', hc2''⟩, hc3⟩ := hp
    have hcap : n * ti.size ≤ cur.size := by omega
    by_cases hm0 : m = 0
    · have := hd0 hm0
      subst hm0 this
      simp only [Nat.add_zero, List.append_nil]
      obtain ⟨g1, g2⟩ := hr.move (w' := w) hμ (.cells e (some ti.size) ds) b k rfl rfl rfl (Nat.le_refl _) (fun _ _ _ => rfl) ⟨.inl rfl, hr.inv.lt _ _ _ hμ⟩ (fun hle => ⟨cur, hc1, ⟨hc2, hc2', hc2''⟩, fun j x hx => ⟨(hc3 j x hx).1, (hc3 j x hx).2.mono hle⟩⟩)
      exact ⟨_, w, _, nothing rfl, g1, .ow _ _ _ ⟨by simp [Mem.set], ⟨_, k, rfl, hnk, hkm, fun _ => ⟨b, rfl⟩, fun b' c' e => (by simp [Mem.set] at e; exact ⟨by rw [e.1], e.2⟩), fun e => by simp [Mem.set] at e⟩, by simp [Mem.set]⟩, g2⟩
    let olds : List Value := (List.range (n * ti.size)).map fun j => cur.getD (0 + j) undef
    have holds : (Builtin.firstCells i.size n (.slice (some ⟨b, 0, none⟩) n k)).run P w.drew = .ok olds.toArray w.drew := by
      refine run_firstCells_some w.drew i.size n _ n k olds (by simp [olds, hi.size]) (fun j q hj => ?_)
      simp only [olds, List.getElem?_map, Option.map_eq_some_iff] at hj
      obtain ⟨j', hj', rfl⟩ := hj
      have hlt : j < n * ti.size := by have := (List.getElem?_eq_some_iff.1 hj').1; simpa using this
      have : j' = j := by rw [List.getElem?_range hlt] at hj'; exact (Option.some.inj hj').symm
      subst this
      rw [addr_add]
      show w.cell? _ = _
      simp [World.cell?, hc1, Array.getD, show j' < cur.size by omega]
    have hol : olds.length = n * ti.size := by simp [olds]
    have holdat : ∀ (j : Nat) q, ds[j]? = some q → (olds.getD j undef).oneCell' = true ∧ R M q (olds.getD j undef) := fun j q hj => by
      have hlt : j < n * ti.size := by rw [← hdl]; exact (List.getElem?_eq_some_iff.1 hj).1
      have : olds.getD j undef = cur.getD j undef := by simp [olds, List.getD_eq_getElem?_getD, hlt]
      rw [this]
      exact hc3 _ _ hj
    have hbothat : ∀ (j : Nat) q, (ds ++ dnews)[j]? = some q → ((olds ++ news).getD j undef).oneCell' = true ∧ R M q ((olds ++ news).getD j undef) := fun j q hj => by
      by_cases hlt : j < n * ti.size
      · rw [List.getElem?_append_left (by omega)] at hj
        have : (olds ++ news).getD j undef = olds.getD j undef := by simp only [List.getD_eq_getElem?_getD]; rw [List.getElem?_append_left (by omega)]
        rw [this]
        exact holdat j q hj
      · rw [List.getElem?_append_right (by omega), hdl] at hj
        have : (olds ++ news).getD j undef = news.getD (j - n * ti.size) undef := by simp only [List.getD_eq_getElem?_getD]; rw [List.getElem?_append_right (by omega), hol]
        rw [this]
        exact hS.at_ _ q hj
    by_cases hrm : n + m ≤ k
    · -- there is room
      have h2 : 0 + n * ti.size + news.length ≤ cur.size := by
        rw [hnl, hc2', Nat.zero_add, ← Nat.add_mul]; exact Nat.mul_le_mul_right _ hrm
      have hst := run_storeCells_at P b (0 + n * ti.size) e news 0 cur w hc1 (by simpa using h2) hSs.one
      simp only [Nat.add_zero] at hst
      have hin : ∀ j, j < news.length → 0 + n * ti.size + j < cur.size := fun j hj => by omega
      have hcc : ∀ j, j < news.length → (w.cell? ⟨b, 0 + n * i.size + j, none⟩).isSome = true := fun j hj => by
        have := hin j hj
        rw [Nat.zero_add] at this
        rw [hi.size, Nat.zero_add]; simp only [World.cell?, hc1]; simp [this]
      have hff : ∀ j, j < news.length → w.frozen? ⟨b, 0 + n * i.size + j, none⟩ = false := fun j hj => by
        simp [World.frozen?, hc1]
      have hst2 := run_storeCells_cells (P := P) b (0 + n * i.size) news 0 w (by simpa using hcc) (by simpa using hff) hSs.one
      simp only [Nat.add_zero, hi.size] at hst2
      have heq : w.setCells b (0 + n * ti.size) news = w.setRow b (cur.toList.take (0 + n * ti.size) ++ news ++ cur.toList.drop (0 + n * ti.size + news.length)).toArray := by
        rw [hst] at hst2
        injection hst2 with _ q
        exact q.symm
      have hrun := run_append_room_src (P := P) w t tx ty e i hte hi.info b 0 n k u m news hSs hrm hcc hff
      rw [hi.size, heq] at hrun
      have wsize : (cur.toList.take (0 + n * ti.size) ++ news ++ cur.toList.drop (0 + n * ti.size + news.length)).toArray.size = cur.size := by
        simp only [List.size_toArray, List.length_append, List.length_take, List.length_drop, Array.length_toList]; omega
      obtain ⟨g1, g2⟩ := hr.move (w' := w.setRow b (cur.toList.take (0 + n * ti.size) ++ news ++ cur.toList.drop (0 + n * ti.size + news.length)).toArray) hμ (.cells e (some ti.size) (ds ++ dnews)) b k rfl rfl rfl (by simp)
        (fun x _ hx => setRow_other w b x _ (fun q => hx q)) ⟨.inl rfl, by simpa using hr.inv.lt _ _ _ hμ⟩ (fun hle => ⟨_, setRow_heap w b cur _ e (0, 0) hc1, ⟨by rw [wsize, List.length_append, ← hS.len]; omega, by rw [wsize]; exact hc2', hc2''⟩, fun j q hj => by
          have h3 : ((cur.toList.take (0 + n * ti.size) ++ news ++ cur.toList.drop (0 + n * ti.size + news.length)).toArray.getD j undef) = (olds ++ news).getD j undef := by
            have hjl : j < (ds ++ dnews).length := (List.getElem?_eq_some_iff.1 hj).1
            rw [List.length_append, hdl, ← hS.len] at hjl
            rw [getD_toArray_append3]
            have m2 : min (n * ti.size) cur.size = n * ti.size := by omega
            simp only [Nat.zero_add, List.length_take, Array.length_toList, m2, List.getD_eq_getElem?_getD]
            by_cases q1 : j < n * ti.size
            · rw [if_pos q1, List.getElem?_append_left (by omega), List.getElem?_take_of_lt q1]
              simp [olds, q1, Array.getD_eq_getD_getElem?]
            · rw [if_neg q1, if_pos (by omega), List.getElem?_append_right (by omega), hol]
          rw [h3]
          exact ⟨(hbothat j q hj).1, (hbothat j q hj).2.mono hle⟩⟩)
      exact ⟨_, _, _, hrun, g1, .ow _ _ _ ⟨by simp [Mem.set], ⟨_, k, rfl, hrm, hkm, fun _ => ⟨b, rfl⟩, fun b' c' e => (by simp [Mem.set] at e; exact ⟨by rw [e.1], e.2⟩), fun e => by simp [Mem.set] at e⟩, by simp [Mem.set]⟩, g2⟩
    · have hrun := run_append_grow_src (P := P) w t tx ty e i z hte hi.info hi.zero (some ⟨b, 0, none⟩) n k olds holds u m news hSs (by omega) (by omega) (growslice_fits (by omega) (by rw [hi.bytes]; exact hb))
      obtain ⟨M', g1, g2, g3⟩ := grow_new (P := P) hr e hi (n + m) k (olds ++ news) (ds ++ dnews) (by rw [List.length_append, hol, hnl, ← Nat.add_mul]) (by rw [List.length_append, List.length_append, hol, hdl, hS.len]) hbothat (by simpa [maxLen] using hm)
      exact ⟨_, _, M', hrun, g1.fewer (few _) rfl, ow_of_sl g2, g3⟩
end Go.Ev
