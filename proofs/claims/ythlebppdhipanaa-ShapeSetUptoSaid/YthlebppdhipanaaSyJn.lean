/-
  The engine, with strings.Join as its contract tells it.
-/
import Derived.Test.YthlebppdhipanaaSyY
import Derived.Test.YthlebppdhipanaaSyS
import Derived.Lib.Join
set_option linter.all false
namespace Go.Ev
open Go.Aw (enters)

def strsC : List D → Option (List ByteArray)
  | [] => some []
  | .lit (.string s) :: r => (match strsC r with
    | some l => some (s :: l)
    | none => none)
  | _ => none
def strsE (h : H) : D → Option (List ByteArray)
  | .sl l off n _ => (match h.hp.get l with
    | some (.cells _ _ ds) => bif Nat.beq off 0 && Nat.beq ds.length n then strsC ds else none
    | _ => none)
  | .ow l n => (match h.hp.get l with
    | some (.cells _ _ ds) => bif Nat.beq ds.length n then strsC ds else none
    | _ => none)
  | _ => none

theorem strsC_ok : ∀ (ds : List D) (xs : List ByteArray), strsC ds = some xs → ds = (strsD xs).flatten ∧ xs.length = ds.length
  | [], xs, h => by simp [strsC] at h; subst h; simp [strsD]
  | d :: r, xs, h => by
    unfold strsC at h
    split at h
    · cases ‹d :: r = []›
    · rename_i s r' heq
      cases heq
      split at h
      · rename_i l hl
        cases h
        obtain ⟨h1, h2⟩ := strsC_ok r l hl
        refine ⟨?_, by simp [h2]⟩
        rw [h1]
        simp [strsD]
      · cases h
    · cases h

def jnB0 (xs : List ByteArray) (sep : ByteArray) : ByteArray := ⟨(Lib.join (xs.map Go.Aw.sB) (Go.Aw.sB sep)).toArray⟩

def joinX (args : List D) (h : H) : Option (D × H) := match args with
  | [x, .lit (.string sep)] => (match strsE h x with
    | some xs => bif Nat.ble xs.length 1000 && Nat.ble (jnB0 xs sep).size 1000000 then some (.lit (.string (jnB0 xs sep)), h) else none
    | none => none)
  | _ => none
def joinE (gj : FuncId) : CF := fun g args h => bif Nat.beq g gj then joinX args h else none

theorem joinX_some {args : List D} {h h' : H} {d : D} (he : joinX args h = some (d, h')) : ∃ x sep xs, args = [x, .lit (.string sep)] ∧ strsE h x = some xs ∧ xs.length ≤ 1000 ∧ (jnB0 xs sep).size ≤ 1000000 ∧ d = .lit (.string (jnB0 xs sep)) ∧ h' = h := by
  unfold joinX at he
  split at he
  case h_2 => cases he
  rename_i x sep
  cases hx : strsE h x with
  | none => rw [hx] at he; cases he
  | some xs =>
    rw [hx] at he
    simp only at he
    obtain ⟨hb, he⟩ := bif_some he
    simp only [Bool.and_eq_true, Nat.ble_eq] at hb
    cases he
    exact ⟨x, sep, xs, rfl, hx, hb.1, hb.2, rfl, rfl⟩

theorem strsD_rows1 (xs : List ByteArray) : ∀ r ∈ strsD xs, r.length = 1 := by
  intro r hr
  simp only [strsD, List.mem_map] at hr
  obtain ⟨_, _, rfl⟩ := hr
  rfl
theorem strsD_belG : ∀ (xs : List ByteArray), D.belLL 0 (strsD xs) = true
  | [] => rfl
  | a :: r => by have := strsD_belG r; simp only [strsD] at this ⊢; simp [this]

/-- What is handed over, sealed. -/
theorem strsE_seal {h : H} {x : D} {xs : List ByteArray} (hxs : strsE h x = some xs) : ∃ hp : List (Nat × Blk), (∀ l k, lk hp l = some k → h.hp.get l = some k) ∧ Seals hp x (.sq false 1 (strsD xs)) := by
  have hlen : (strsD xs).length = xs.length := by simp [strsD]
  unfold strsE at hxs
  split at hxs
  · rename_i l off n cap
    split at hxs
    case h_2 => cases hxs
    rename_i ty op ds hl
    obtain ⟨hb, hx2⟩ := bif_some hxs
    simp only [Bool.and_eq_true] at hb
    have h0 := Nat.eq_of_beq_eq_true hb.1
    have hn := Nat.eq_of_beq_eq_true hb.2
    subst h0
    obtain ⟨h1, h2⟩ := strsC_ok ds xs hx2
    refine ⟨[(l, .cells ty op ds)], fun l' k e => ?_, seals_sl (rows := strsD xs) (ty := ty) (op := op) (by rw [← h1]; simp [lk]) (by omega) (strsD_rows1 xs) (strsD_belG xs)⟩
    simp only [lk] at e
    split at e
    · rename_i hq; subst hq; cases e; exact hl
    · cases e
  · rename_i l n
    split at hxs
    case h_2 => cases hxs
    rename_i ty op ds hl
    obtain ⟨hb, hxs⟩ := bif_some hxs
    have hn := Nat.eq_of_beq_eq_true hb
    obtain ⟨h1, h2⟩ := strsC_ok ds xs hxs
    refine ⟨[(l, .cells ty op ds)], fun l' k e => ?_, seals_ow (rows := strsD xs) (ty := ty) (op := op) (by rw [← h1]; simp [lk]) (by omega) (strsD_rows1 xs) (strsD_belG xs)⟩
    simp only [lk] at e
    split at e
    · rename_i hq; subst hq; cases e; exact hl
    · cases e
  · cases hxs

theorem joinE_ok {P : Program} {gj : FuncId} (hen : enters P gj = true) (hJ : ∀ xs sep, xs.length ≤ 1000 → (jnB0 xs sep).size ≤ 1000000 → FnO P gj [.sq false 1 (strsD xs), .lit (.string sep)] (.ret (.lit (.string (jnB0 xs sep))))) : SF P (joinE gj) := by
  intro g args h d h' he
  unfold joinE at he
  obtain ⟨hg, he⟩ := bif_some he
  have hg := Nat.eq_of_beq_eq_true hg
  obtain ⟨x, sep, xs, rfl, hxs, b1, b2, rfl, rfl⟩ := joinX_some he
  subst hg
  refine .inl ⟨hen, fun M w vs hr hvs => ?_⟩
  obtain ⟨hp, k1, k2⟩ := strsE_seal hxs
  have hr0 : RH M { hp := toT hp, nx := h'.nx } w := ⟨hr.inv, fun l k e => hr.hp l k (k1 l k (by rw [← get_toT]; exact e)), hr.nx⟩
  have hi := sealFz_inv (w := w) hr.inv
  have hvs' : argsOk (Mem.none (sealFz M w)) [.sq false 1 (strsD xs), .lit (.string sep)] vs := ⟨hvs.1, fun i d' e => by
    match i, e with
    | 0, e => simp at e; subst e; exact k2.ok hr0 (hvs.2 0 x rfl)
    | 1, e => simp at e; subst e; exact (Seals.same (hp := hp) (.lit (.string sep)) (by simp)).ok hr0 (hvs.2 1 _ rfl)
    | i + 2, e => simp at e⟩
  rcases hJ xs sep b1 b2 with ⟨_, hc⟩ | ⟨hc, _⟩
  · refine (hc _ w vs hi hvs').mono ?_
    rintro e w' ⟨fz', ⟨v, rfl, hv⟩, hi', he'⟩
    have hkeep : ∀ b, b < w.heap.size → w'.heap[b]? = w.heap[b]? := fun b hb => he'.keep b hb (fun _ _ e => by cases e)
    have hlt : ∀ b c, M.fz b = some c → b < w.heap.size := fun b c e => by
      obtain ⟨ty, fr, h1⟩ := hr.inv.fz b c e
      exact (Array.getElem?_eq_some_iff.1 h1).1
    refine ⟨v, M, rfl, ⟨⟨hr.inv.inj, fun l b c e => Nat.lt_of_lt_of_le (hr.inv.lt l b c e) he'.size, hr.inv.nx, fun b c e => ?_, hr.inv.sep⟩, fun l k e => (hr.hp l k e).mono (.refl M) (fun b c e2 => hkeep b (hr.inv.lt _ _ _ e2)), hr.nx⟩, ?_, ⟨he'.os, he'.tape, he'.output, he'.size, fun b hb _ => hkeep b hb, fun l b c e => .inl ⟨l, c, e⟩, Nat.le_refl _, fun _ _ => .inl rfl, fun _ _ e => e, fun _ _ e => .inl e, fun _ _ h => h⟩⟩
    · obtain ⟨ty, fr, h1⟩ := hr.inv.fz b c e
      exact ⟨ty, fr, (hkeep b (hlt b c e)).trans h1⟩
    · cases hv with
      | lit _ h => exact .lit _ h
  · rw [hen] at hc; cases hc
end Go.Ev
