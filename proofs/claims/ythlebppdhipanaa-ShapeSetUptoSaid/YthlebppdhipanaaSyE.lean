/-
  Operations that write memory, or make it, upon symbolic data.
-/
import Derived.Test.YthlebppdhipanaaSyD
set_option linter.all false
namespace Go.Ev
open Go.Aw (litOk Z TK TI kOf tiOf TIs tiOf_spec WF addr_add und_sl und_str und_arr sB sB_length halloc_old halloc_new getD_toArray_append3 get_append3)

/-! ### What is appended -/
def srcV (P : Program) (hp : List (Nat × Blk)) (sz : Nat) (tx : TypeId) (x : D) : Option (Nat × List D) :=
  match x with
  | .lit (.slice none 0 0) => if isSrc P tx (.lit (.slice none 0 0)) = true then some (0, []) else none
  | .lit (.string b) => if isSrc P tx (.lit (.string b)) = true ∧ sz = 1 then some ((sB b).length, (sB b).map fun u => .lit (.int .u8 u.toNat)) else none
  | .sq f s rows => if isSrc P tx (.sq f s rows) = true ∧ s = sz then some (rows.length, rows.flatten) else none
  | .sl l off len c => if isSrc P tx (.sl l off len c) = true then (match lk hp l with
    | some (.cells _ _ ds) => some (len, (ds.drop off).take (len * sz))
    | _ => none) else none
  | .ow l n => if isSrc P tx (.ow l n) = true then (match lk hp l with
    | some (.cells _ _ ds) => some (n, ds)
    | _ => none) else none
  | _ => none

def srcO (hp : List (Nat × Blk)) (sz : Nat) (x : D) : Prop :=
  match x with
  | .sq _ _ rows => ∀ r, r ∈ rows → r.length = sz
  | .sl l off len _ => (match lk hp l with
    | some (.cells _ _ ds) => off + len * sz ≤ ds.length
    | _ => False)
  | .ow l n => (match lk hp l with
    | some (.cells _ _ ds) => ds.length = n * sz
    | _ => False)
  | _ => True

theorem flatten_length {α : Type} {sz : Nat} : ∀ (rows : List (List α)), (∀ r, r ∈ rows → r.length = sz) → rows.flatten.length = rows.length * sz
  | [], _ => by simp
  | r :: rs, h => by
    simp only [List.flatten_cons, List.length_append, List.length_cons, h r (by simp), flatten_length rs (fun q hq => h q (by simp [hq])), Nat.add_mul, Nat.one_mul]
    omega

theorem flatten_get {α : Type} {sz : Nat} : ∀ (rows : List (List α)), (∀ r, r ∈ rows → r.length = sz) → ∀ (k : Nat) (x : α), rows.flatten[k]? = some x → ∃ r, rows[k / sz]? = some r ∧ r[k % sz]? = some x ∧ 0 < sz
  | [], _, k, x, h => by simp at h
  | r :: rs, hz, k, x, h => by
    have hr := hz r (by simp)
    rw [List.flatten_cons] at h
    by_cases hk : k < sz
    · rw [List.getElem?_append_left (by omega)] at h
      exact ⟨r, by rw [Nat.div_eq_of_lt hk]; rfl, by rw [Nat.mod_eq_of_lt hk]; exact h, by omega⟩
    · rw [List.getElem?_append_right (by omega), hr] at h
      obtain ⟨q, h1, h2, h3⟩ := flatten_get rs (fun q hq => hz q (by simp [hq])) (k - sz) x h
      refine ⟨q, ?_, ?_, h3⟩
      · have : k / sz = (k - sz) / sz + 1 := by
          rw [Nat.div_eq_sub_div h3 (by omega)]
        rw [this]
        simpa using h1
      · rw [Nat.mod_eq_sub_mod (by omega)]; exact h2

theorem src_okV {P : Program} {M : Mem} {hp : List (Nat × Blk)} {nx : Nat} {w : World} (hr : RH M { hp := toT hp, nx := nx } w) {sz n : Nat} {x : D} {ds : List D} {tx : TypeId} (he : srcV P hp sz tx x = some (n, ds)) (ho : srcO hp sz x) {v : Value} (hv : R M x v) :
    ∃ news, SrcD P M sz tx v n ds news w := by
  have sl_of : ∀ y : D, isSrc P tx y = true → (∀ b, y ≠ .lit (.string b)) → ∃ e', P.underlying tx = some (.slice e') := fun y hy hn => by
    unfold isSrc at hy
    split at hy
    · rename_i htt
      obtain ⟨it, dt, zt, ht⟩ := tiOf_spec htt
      exact ⟨_, und_sl ht rfl⟩
    · split at hy
      · exact absurd rfl (hn _)
      · cases hy
    · cases hy
  unfold srcV at he
  split at he
  · split at he
    case isFalse => cases he
    rename_i hs
    cases he
    exact src_ok hr (h := { hp := toT hp, nx := nx }) rfl hs hv
  · rename_i b
    split at he
    case isFalse => cases he
    rename_i hs
    obtain ⟨hs, rfl⟩ := hs
    cases he
    refine src_ok hr (h := { hp := toT hp, nx := nx }) ?_ hs hv
    simp only [srcE, sB_length]
    rfl
  · rename_i f s rows
    split at he
    case isFalse => cases he
    rename_i hs
    obtain ⟨hs, rfl⟩ := hs
    obtain ⟨e', hk⟩ := sl_of _ hs (fun b => by simp)
    cases he
    simp only [srcO] at ho
    have hfl := flatten_length rows ho
    cases hv with
    | sqn _ _ a =>
      cases a with
      | none => exact ⟨[], Src.ofNil w hk 0, rfl, by simp⟩
      | some a => exact ⟨[], Src.ofSlice w hk a 0 0 [] (by simp) (by simp) (by simp), rfl, by simp⟩
    | sq _ _ _ b off k c V hb hn hm hf hz h1 h2 =>
      obtain ⟨ty, fr, hw⟩ := hr.inv.fz b c hb
      have key : ∀ j x, rows.flatten[j]? = some x → c[off + j]? = some (c.getD (off + j) undef) ∧ (c.getD (off + j) undef).oneCell' = true ∧ R M x (c.getD (off + j) undef) := fun j x hj => by
        obtain ⟨r, g1, g2, g3⟩ := flatten_get rows ho j x hj
        have hjj : off + j / s * s + j % s = off + j := by
          have := Nat.div_add_mod j s
          rw [Nat.mul_comm] at this
          omega
        obtain ⟨q1, q2⟩ := h1 _ r _ x g1 g2
        rw [hjj] at q1
        have q3 := h2 _ r _ x g1 g2
        have : c.getD (off + j) undef = V (j / s) (j % s) := by simp [Array.getD_eq_getD_getElem?, q1]
        rw [this]
        exact ⟨q1, q2, q3⟩
      refine ⟨(List.range (rows.length * s)).map fun j => c.getD (off + j) undef, Src.ofSlice w hk _ _ _ _ (by simp) (fun j u hj => ?_) (fun u hu => ?_), by simp [hfl], fun j d hd => ?_⟩
      · simp only [List.getElem?_map, Option.map_eq_some_iff] at hj
        obtain ⟨j', hj', rfl⟩ := hj
        have hlt : j < rows.length * s := by have := (List.getElem?_eq_some_iff.1 hj').1; simpa using this
        have : j' = j := by rw [List.getElem?_range hlt] at hj'; exact (Option.some.inj hj').symm
        subst this
        rw [addr_add]
        simp only [World.cell?, hw]
        exact (key j' _ (List.getElem?_eq_getElem (by omega))).1
      · simp only [List.mem_map, List.mem_range] at hu
        obtain ⟨j, hj, rfl⟩ := hu
        exact (key j _ (List.getElem?_eq_getElem (by omega))).2.1
      · have hlt : j < rows.length * s := by rw [← hfl]; exact (List.getElem?_eq_some_iff.1 hd).1
        have : ((List.range (rows.length * s)).map fun j => c.getD (off + j) undef).getD j undef = c.getD (off + j) undef := by simp [List.getD_eq_getElem?_getD, hlt]
        rw [this]
        exact (key j d hd).2
  · rename_i l off len c
    split at he
    case isFalse => cases he
    rename_i hs
    simp only [srcO] at ho
    split at he
    case h_2 => cases he
    rename_i hl
    rw [hl] at ho
    cases he
    refine src_ok hr (h := { hp := toT hp, nx := nx }) ?_ hs hv
    simp only at ho
    rw [← Nat.ble_eq] at ho
    simp only [srcE, get_toT, hl, ho, cond_true]
  · rename_i l m
    split at he
    case isFalse => cases he
    rename_i hs
    obtain ⟨e', hk⟩ := sl_of _ hs (fun b => by simp)
    simp only [srcO] at ho
    split at he
    case h_2 => cases he
    rename_i ty op ds' hl
    rw [hl] at ho
    simp only at ho
    cases he
    cases hv with
    | ow _ _ _ hw =>
    obtain ⟨a, k, rfl, q1, q2, q3, q4, q5⟩ := hw.val
    have hp' := hr.hp l _ (by rw [get_toT]; exact hl)
    cases hμ : M.μ l with
    | dead => rw [hμ] at hp'; exact hp'.elim
    | res => exact absurd hμ hw.nres
    | nil =>
      rw [hμ] at hp'
      obtain ⟨_, _, hp'⟩ := hp'
      injection hp' with _ _ hd
      subst hd
      obtain ⟨rfl, rfl⟩ := q5 hμ
      cases a with
      | none => exact ⟨[], Src.ofNil w hk 0, rfl, by simp⟩
      | some a => exact ⟨[], Src.ofSlice w hk a 0 0 [] (by simp) (by simp) (by simp), rfl, by simp⟩
    | blk b c =>
      rw [hμ] at hp'
      obtain ⟨rfl, rfl⟩ := q4 b c hμ
      obtain ⟨cur, hc1, hc2, hc3⟩ := hp'
      have hsz : ds.length ≤ cur.size := by
        cases op with
        | none => simp only at hc2; omega
        | some q => exact hc2.1
      refine ⟨(List.range (n * sz)).map fun j => cur.getD (0 + j) undef, Src.ofSlice w hk _ _ _ _ (by simp) (fun j u hj => ?_) (fun u hu => ?_), by simp [ho], fun j d hd => ?_⟩
      · simp only [List.getElem?_map, Option.map_eq_some_iff] at hj
        obtain ⟨j', hj', rfl⟩ := hj
        have hlt : j < n * sz := by have := (List.getElem?_eq_some_iff.1 hj').1; simpa using this
        have : j' = j := by rw [List.getElem?_range hlt] at hj'; exact (Option.some.inj hj').symm
        subst this
        rw [addr_add]
        simp [World.cell?, hc1, Array.getD, show j' < cur.size by omega]
      · simp only [List.mem_map, List.mem_range] at hu
        obtain ⟨j, hj, rfl⟩ := hu
        rw [Nat.zero_add]
        exact (hc3 j _ (List.getElem?_eq_getElem (by omega))).1
      · have hlt : j < n * sz := by rw [← ho]; exact (List.getElem?_eq_some_iff.1 hd).1
        have : ((List.range (n * sz)).map fun j => cur.getD (0 + j) undef).getD j undef = cur.getD j undef := by simp [List.getD_eq_getElem?_getD, hlt]
        rw [this]
        exact hc3 j d hd
  · cases he

/-! ### append -/
def appendL (P : Program) (hp : List (Nat × Blk)) (nx : Nat) (t tx : TypeId) (x y : D) : Option (D × List (Nat × Blk) × Nat) :=
  match tiOf P t with
  | some { k := .sl e, .. } => (match tiOf P e with
    | some ti => (match srcV P hp ti.size tx y with
      | some (m, news) => (match x with
        | .lit (.slice none 0 0) => some (.ow (nx + 1) m, up (ldel hp nx) (nx + 1) (.cells e (some ti.size) news), nx + 2)
        | .ow l n => (match lk hp l with
          | some (.cells ty (some sz) ds) => if ty = e ∧ sz = ti.size then some (.ow nx (n + m), up (ldel hp l) nx (.cells e (some ti.size) (ds ++ news)), nx + 1) else none
          | _ => none)
        | .sq true sz rows => if sz = ti.size then some (.ow nx (rows.length + m), up hp nx (.cells e (some ti.size) (rows.flatten ++ news)), nx + 1) else none
        | .sl l off len (some _) => (match lk hp l with
          | some (.cells _ _ ds) => some (.ow nx (len + m), up hp nx (.cells e (some ti.size) ((ds.drop off).take (len * ti.size) ++ news)), nx + 1)
          | _ => none)
        | _ => none)
      | none => none)
    | none => none)
  | _ => none

def appendO (P : Program) (hp : List (Nat × Blk)) (t tx : TypeId) (x y : D) : Prop :=
  match tiOf P t with
  | some { k := .sl e, .. } => (match tiOf P e with
    | some ti => 0 < ti.size ∧ srcO hp ti.size y ∧ (match srcV P hp ti.size tx y with
      | some (m, _) => (match x with
        | .lit (.slice none 0 0) => m * ti.bytes ≤ 140737488355328 ∧ m ≤ 9223372036854775807
        | .ow l n => (n + m) * ti.bytes ≤ 140737488355328 ∧ n + m ≤ 9223372036854775807 ∧ (match lk hp l with
          | some (.cells _ _ ds) => ds.length = n * ti.size
          | _ => False)
        | .sq _ _ rows => (rows.length + m) * ti.bytes ≤ 140737488355328 ∧ rows.length + m ≤ 9223372036854775807 ∧ 0 < m ∧ ∀ r, r ∈ rows → r.length = ti.size
        | .sl l off len (some k) => (len + m) * ti.bytes ≤ 140737488355328 ∧ len + m ≤ 9223372036854775807 ∧ 0 < m ∧ k = len ∧ (match lk hp l with
          | some (.cells _ _ ds) => off + len * ti.size ≤ ds.length
          | _ => False)
        | _ => False)
      | none => False)
    | none => False)
  | _ => False

/-- A row that is known, and has no room, grows. -/
theorem append_grown {P : Program} {M : Mem} {h : H} {w : World} (hr : RH M h w) {t tx ty e : TypeId} {ti : TI} {i : TypeInfo} {dd : TypeDesc} {z : Value} (hte : P.underlying t = some (.slice e)) (hi : TIs P e ti i dd z)
    {n m : Nat} {a : Option Addr} {dolds dnews : List D} {olds news : List Value} (hfc : (Builtin.firstCells i.size n (.slice a n n)).run P w.drew = .ok olds.toArray w.drew) (hol : olds.length = n * ti.size) (hod : olds.length = dolds.length)
    (hoat : ∀ (j : Nat) q, dolds[j]? = some q → (olds.getD j undef).oneCell' = true ∧ R M q (olds.getD j undef)) {u : Value} (hS : SrcD P M ti.size tx u m dnews news w)
    (hb : (n + m) * ti.bytes ≤ 140737488355328) (hm : n + m ≤ 9223372036854775807) (h0 : 0 < m) :
    ∃ q w' M', (Builtin.append_ #[t, tx] ty #[.slice a n n, u]).run P w = .ok q w' ∧ RH M' { hp := h.hp.set h.nx (.cells e (some ti.size) (dolds ++ dnews)), nx := h.nx + 1 } w' ∧ R M' (.ow h.nx (n + m)) q ∧ Ext M w M' w' := by
  have hSs := hS.src
  rw [← hi.size] at hSs
  have hnl : news.length = m * ti.size := by rw [hS.src.newsLen]
  have hbothat : ∀ (j : Nat) q, (dolds ++ dnews)[j]? = some q → ((olds ++ news).getD j undef).oneCell' = true ∧ R M q ((olds ++ news).getD j undef) := fun j q hj => by
    by_cases hlt : j < olds.length
    · rw [List.getElem?_append_left (by omega)] at hj
      have : (olds ++ news).getD j undef = olds.getD j undef := by simp only [List.getD_eq_getElem?_getD]; rw [List.getElem?_append_left (by omega)]
      rw [this]
      exact hoat j q hj
    · rw [List.getElem?_append_right (by omega), ← hod] at hj
      have : (olds ++ news).getD j undef = news.getD (j - olds.length) undef := by simp only [List.getD_eq_getElem?_getD]; rw [List.getElem?_append_right (by omega)]
      rw [this]
      exact hS.at_ _ q hj
  have hrun := run_append_grow_src (P := P) w t tx ty e i z hte hi.info hi.zero a n n olds hfc u m news hSs (by omega) (by omega) (growslice_fits (by omega) (by rw [hi.bytes]; exact hb))
  obtain ⟨M', g1, g2, g3⟩ := grow_new (P := P) hr e hi (n + m) n (olds ++ news) (dolds ++ dnews) (by rw [List.length_append, hol, hnl, ← Nat.add_mul]) (by rw [List.length_append, List.length_append, hod, hS.len]) hbothat (by simpa [maxLen] using hm)
  exact ⟨_, _, M', hrun, g1, ow_of_sl g2, g3⟩

theorem toT_up {hp : List (Nat × Blk)} {l : Nat} {k : Blk} (j : Nat) : (toT (up hp l k)).get j = ((toT hp).set l k).get j := by
  rw [get_toT, lk_up, T.get_set, get_toT]

theorem toT_del_up {hp : List (Nat × Blk)} {l m : Nat} {k : Blk} (j : Nat) : (toT (up (ldel hp m) l k)).get j = (((toT hp).del m).set l k).get j := by
  rw [get_toT, lk_up, T.get_set, T.get_del, get_toT, lk_ldel]

theorem appendL_ok {P : Program} {M : Mem} {hp hp' : List (Nat × Blk)} {nx nx' : Nat} {w : World} (hr : RH M { hp := toT hp, nx := nx } w) {t tx ty : TypeId} {x y d : D} (he : appendL P hp nx t tx x y = some (d, hp', nx')) (ho : appendO P hp t tx x y)
    {v u : Value} (hv : R M x v) (hu : R M y u) : ∃ q w' M', (Builtin.append_ #[t, tx] ty #[v, u]).run P w = .ok q w' ∧ RH M' { hp := toT hp', nx := nx' } w' ∧ R M' d q ∧ Ext M w M' w' := by
  unfold appendL at he
  unfold appendO at ho
  split at he
  case h_2 => cases he
  rename_i tsize tbytes e tz htt
  obtain ⟨it, dt, zt, ht⟩ := tiOf_spec htt
  have hte := und_sl ht rfl
  simp only [htt] at ho
  split at he
  case h_2 => cases he
  rename_i ti hti
  obtain ⟨i, dd, z, hi⟩ := tiOf_spec hti
  simp only [hti] at ho
  obtain ⟨hsz, hso, ho⟩ := ho
  split at he
  case h_2 => cases he
  rename_i m dnews hs
  simp only [hs] at ho
  obtain ⟨news, hS⟩ := src_okV hr hs hso hu
  split at he
  · -- nil
    simp only at ho
    cases he
    cases hv
    obtain ⟨g1, g2⟩ := hr.newNil e ti.size
    have hS' : SrcD P (M.set nx .nil (nx + 1)) ti.size tx u m dnews news w := ⟨hS.src, hS.len, fun i d h => ⟨(hS.at_ i d h).1, (hS.at_ i d h).2.mono g2.le⟩⟩
    obtain ⟨q, w', M', k1, k2, k3, k4⟩ := append_ow (ty := ty) (n := 0) (l := nx) (ds := []) g1 hte hi hsz (by simp [T.get_set]) (by simp) (.ow nx 0 (.slice none 0 0) ⟨by simp [Mem.set], ⟨none, 0, rfl, Nat.le_refl _, Nat.zero_le _, fun x => by omega, fun b c e => by simp [Mem.set] at e, fun _ => ⟨rfl, rfl⟩⟩, by simp [Mem.set]⟩) hS' (by simpa using ho.1) (by simpa using ho.2)
    simp only [Nat.zero_add, List.nil_append] at k2 k3
    refine ⟨q, w', M', k1, k2.same (fun l => ?_) rfl, k3, g2.trans k4⟩
    simp only [get_toT, lk_up, lk_ldel, T.get_set, T.get_del]
    by_cases h1 : nx + 1 = l
    · rw [if_pos h1, if_pos h1]
    · rw [if_neg h1, if_neg h1]
      by_cases h2 : nx = l
      · rw [if_pos h2, if_pos h2]
      · rw [if_neg h2, if_neg h2, if_neg h2]
  · -- own
    rename_i l n
    split at he
    case h_2 => cases he
    rename_i ty' sz ds hl
    simp only [hl] at ho
    obtain ⟨hb, hm, hdl⟩ := ho
    split at he
    case isFalse => cases he
    rename_i hc
    obtain ⟨rfl, rfl⟩ := hc
    cases he
    obtain ⟨q, w', M', k1, k2, k3, k4⟩ := append_ow (ty := ty) hr hte hi hsz (by rw [get_toT]; exact hl) hdl hv hS hb hm
    exact ⟨q, w', M', k1, k2.same (fun j => toT_del_up j) rfl, k3, k4⟩
  · -- full
    rename_i sz rows
    simp only at ho
    obtain ⟨hb, hm, h0, hrl⟩ := ho
    split at he
    case isFalse => cases he
    rename_i hc
    subst hc
    cases he
    have hfl := flatten_length rows hrl
    obtain ⟨olds, hso2⟩ := src_okV (P := P) (tx := t) (x := .sq true ti.size rows) (n := rows.length) (ds := rows.flatten) hr (by simp [srcV, isSrc, htt]) hrl hv
    have hlen := hso2.src.newsLen
    have hvk : ∃ a, v = .slice a rows.length rows.length := by
      cases hv with
      | sqn => exact ⟨_, rfl⟩
      | sq _ _ _ b off k c V hb hn hm hf hz h1 h2 => rw [hf rfl]; exact ⟨_, rfl⟩
    obtain ⟨a, rfl⟩ := hvk
    obtain ⟨q, w', M', k1, k2, k3, k4⟩ := append_grown (ty := ty) hr hte hi (by rw [hi.size]; exact hso2.src.cellsD) hlen hso2.len hso2.at_ hS hb hm h0
    exact ⟨q, w', M', k1, k2.same (fun j => toT_up j) rfl, k3, k4⟩
  · rename_i l off len k
    split at he
    case h_2 => cases he
    rename_i ty' op ds hl
    simp only [hl] at ho
    obtain ⟨hb, hm, h0, rfl, hdl⟩ := ho
    cases he
    obtain ⟨olds, hso2⟩ := src_okV (P := P) (sz := ti.size) (tx := t) (x := .sl l off k (some k)) (n := k) (ds := (ds.drop off).take (k * ti.size)) hr (by simp only [srcV, isSrc, htt, hl, if_true]) (by simpa only [srcO, hl] using hdl) hv
    have hlen := hso2.src.newsLen
    have hvk : ∃ a, v = .slice a k k := by
      cases hv with
      | sl _ _ _ _ b k' ha hk h0 hn hm => rw [hk _ rfl]; exact ⟨_, rfl⟩
    obtain ⟨a, rfl⟩ := hvk
    obtain ⟨q, w', M', k1, k2, k3, k4⟩ := append_grown (ty := ty) hr hte hi (by rw [hi.size]; exact hso2.src.cellsD) hlen hso2.len hso2.at_ hS hb hm h0
    exact ⟨q, w', M', k1, k2.same (fun j => toT_up j) rfl, k3, k4⟩
  · cases he
end Go.Ev
