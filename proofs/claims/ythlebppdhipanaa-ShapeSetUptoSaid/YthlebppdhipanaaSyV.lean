/-
  From a place on, no memory that is known changes any more.
-/
import Derived.Test.YthlebppdhipanaaSyU
set_option linter.all false
namespace Go.Ev
open Go.Aw (WF)

theorem lk_in {α : Type} : ∀ (l : List (Nat × α)) (t : Nat) (x : α), lk l t = some x → (t, x) ∈ l
  | [], t, x, h => by simp [lk] at h
  | (k, y) :: r, t, x, h => by
    simp only [lk] at h
    split at h
    · rename_i hk
      cases h
      simp [hk]
    · simp [lk_in r t x h]

/-- What is sealed. -/
def S.sld (s : S) (tm' : List (Nat × D)) (ex' : List D) : S := S.mk s.n tm' [] 0 [] s.g ex'

theorem seal_ok {s : S} (tm' : List (Nat × D)) (ex' : List D) (hdf : s.df = []) (h1 : ∀ p ∈ tm', ∃ d, lk s.tm p.1 = some d ∧ Seals s.hp d p.2) (h2 : ∀ (i : Nat) d', ex'[i]? = some d' → ∃ d, s.ex[i]? = some d ∧ Seals s.hp d d')
    {M : Mem} {w : World} {a : Act} {zs : Nat → Value} (hr : SRep zs M s w a) : SRep zs (Mem.none (sealFz M w)) (s.sld tm' ex') w a ∧ ExtW M w (Mem.none (sealFz M w)) w := by
  have hi := sealFz_inv (w := w) hr.h.inv
  refine ⟨⟨⟨hi, fun l k e => (by simp [S.sld, S.H, toT, T.get] at e), rfl⟩, hr.sz, fun t d' e => ?_, ⟨[], df_nil hr hdf, rfl, fun i l hl => by simp [S.sld] at hl⟩, fun i d' e => ?_⟩,
    ⟨rfl, rfl, rfl, Nat.le_refl _, fun _ _ _ => rfl, fun l b c e => (by cases e), fun b c e => sealFz_old hr.h.inv e, fun b c e => (sealFz_new e).imp id .inl⟩⟩
  · obtain ⟨d, h3, h4⟩ := h1 _ (lk_in _ _ _ e)
    exact h4.ok hr.h (hr.t _ _ h3)
  · obtain ⟨d, h3, h4⟩ := h2 i d' e
    exact h4.ok hr.h (hr.ex _ _ h3)

/-- From here on nothing that is known changes: slots are told anew. -/
theorem w_seal {P : Program} {I : Gh} {Q : X → S → Prop} {s : S} {c : Code} (tm' : List (Nat × D)) (ex' : List D) (hdf : s.df = []) (h1 : ∀ p ∈ tm', ∃ d, lk s.tm p.1 = some d ∧ Seals s.hp d p.2) (h2 : ∀ (i : Nat) d', ex'[i]? = some d' → ∃ d, s.ex[i]? = some d ∧ Seals s.hp d d')
    (h : W P none I c Q (s.sld tm' ex')) : W P none I c Q s := by
  intro r M w a zs hrl hr hg
  cases r with
  | some _ => exact hrl.elim
  | none =>
  obtain ⟨g1, g2⟩ := seal_ok tm' ex' hdf h1 h2 hr
  exact h none _ w a zs trivial g1 (hg.mono g2)

/-- A pure function is called with what is sealed for it. -/
theorem callS_seal {P : Program} {I : Gh} {gg : FuncId} {first caps args args' : List D} {d : D} {so : Prop} {g : Option (Nat × Bool)} {dst : Option Tmp} {s : S} {K : S → Prop} {Kp : D → S → Prop} (tm' : List (Nat × D)) (ex' : List D) (hdf : s.df = [])
    (h1 : ∀ p ∈ tm', ∃ d, lk s.tm p.1 = some d ∧ Seals s.hp d p.2) (h2 : ∀ (i : Nat) d', ex'[i]? = some d' → ∃ d, s.ex[i]? = some d ∧ Seals s.hp d d') (hl : args'.length = (first ++ (args ++ caps)).length)
    (ha : ∀ (i : Nat) d', args'[i]? = some d' → ∃ d, (first ++ (args ++ caps))[i]? = some d ∧ Seals s.hp d d') (hO : FnO P gg args' (.ret d)) (hb : D.belL 0 args' = true) (hbd : D.bel 0 d = true) (hso : so)
    (hK : (s.sld tm' ex').room dst ∧ K ((s.sld tm' ex').put dst d)) : CallS P none I true (.fn (.func gg) first caps) args so g dst s K Kp := by
  refine .inr ⟨fun _ => ⟨hso, ?_⟩, fun h => by cases h⟩
  intro r M w a zs hrl hr hg vs hvs
  cases r with
  | some _ => exact hrl.elim
  | none =>
  obtain ⟨g1, g2⟩ := seal_ok tm' ex' hdf h1 h2 hr
  have hvs' : argsOk (Mem.none (sealFz M w)) args' vs := ⟨by rw [hl]; exact hvs.1, fun i d' e => by
    obtain ⟨d, h3, h4⟩ := ha i d' e
    exact h4.ok hr.h (hvs.2 i d h3)⟩
  exact callF_fnO (rl := none) (s := s.sld tm' ex') hO hb (fun d' h => by rcases h with h | h <;> cases h; exact hbd) hK none _ w a zs trivial g1 (hg.mono g2) vs hvs'
end Go.Ev
