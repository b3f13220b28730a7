/-
  Regions that draw their order, with one call in the midst that all that stands ahead of it is done ahead of, and all behind it behind.
-/
import Derived.Test.YthlebppdhipanaaSyX
set_option linter.all false
namespace Go.Ev
open Go.Aw (WF enters tiOf)

def xq (N : Act → World → Prop) (Q : Exit → Act → World → Prop) : Exit → Act → World → Prop
  | .normal, a, w => N a w
  | e, a, w => Q e a w

theorem countP_setE (n : Nat) {listed : Array Bool} {i : Nat} (hn : i < n) (hi : i < listed.size) (hu : listed.getD i true = false) :
    (List.range n).countP (fun k => !(listed.setIfInBounds i true).getD k true) + 1 = (List.range n).countP (fun k => !listed.getD k true) := by
  have key : ∀ l : List Nat, l.Nodup → i ∈ l → l.countP (fun k => !(listed.setIfInBounds i true).getD k true) + 1 = l.countP (fun k => !listed.getD k true) := by
    intro l
    induction l with
    | nil => intro _ h; simp at h
    | cons x l ih =>
      intro hnd hm
      obtain ⟨n1, n2⟩ := List.nodup_cons.1 hnd
      have other : ∀ k, k ≠ i → (listed.setIfInBounds i true).getD k true = listed.getD k true := fun k hk => by
        simp [Array.getD_eq_getD_getElem?, Array.getElem?_setIfInBounds_ne (Ne.symm hk)]
      have self : (listed.setIfInBounds i true).getD i true = true := by simp [Array.getD, hi]
      rcases List.mem_cons.1 hm with rfl | hm
      · rw [List.countP_cons, List.countP_cons, self, hu]
        have : l.countP (fun k => !(listed.setIfInBounds i true).getD k true) = l.countP (fun k => !listed.getD k true) :=
          List.countP_congr fun k hk => by rw [other k (fun e => n1 (e ▸ hk))]
        rw [this]
        simp
      · have hx : x ≠ i := fun e => n1 (e ▸ hm)
        rw [List.countP_cons, List.countP_cons, other x hx, ← ih n2 hm]
        omega
  exact key _ List.nodup_range (List.mem_range.2 hn)

theorem upon_xq {F : Fence} {n : Nat} {P : Program} {o : Oper} {a : Act} {next N : Act → World → Prop} {Q : Exit → Act → World → Prop} {r : Result Next} (h : o.uponIn F n P a next (xq N Q) r) : o.uponIn F n P a next Q r := by
  cases r with
  | ok x w' => cases x <;> exact h
  | halt x w' => cases x <;> exact h

/-- What is asked of such a region. -/
structure Bar (b : Nat) (l : List Oper) (as : List Nat) : Prop where
  lt : ∀ (i : Nat) (o : Oper), l[i]? = some o → ∀ e ∈ o.after.toList, Region.binds .any e = true → e.on < i
  anc : ∀ (i : Nat) (o : Oper) (x : Nat), l[i]? = some o → (as.getD i 0).testBit x = true → ∃ e ∈ o.after.toList, Region.binds .any e = true ∧ (e.on = x ∨ (as.getD e.on 0).testBit x = true)
  all : ∀ i, i < b → (as.getD b 0).testBit i = true
  nxt : ∀ (k : Nat) (o : Oper), b < k → l[k]? = some o → ∃ e ∈ o.after.toList, Region.binds .any e = true ∧ e.on + 1 = k
  gd : ∀ (i : Nat) (o : Oper) (j : Nat) (want : Bool), l[i]? = some o → o.guard = some (j, want) → j < i
  le : b ≤ l.length

def barOk (b : Nat) (l : List Oper) : Bool :=
  match ancsGo l [] with
  | some as => Nat.ble b l.length && ((List.range b).all (fun i => Nat.testBit (as.getD b 0) i) && ((List.range l.length).all (fun k => match l[k]? with
      | some o => (!Nat.blt b k || o.after.toList.any fun e => Region.binds .any e && Nat.beq (e.on + 1) k) && (match o.guard with | some (j, _) => Nat.blt j k | none => true)
      | none => true)))
  | none => false

theorem bar_ok {b : Nat} {l : List Oper} (h : barOk b l = true) : ∃ as, Bar b l as := by
  unfold barOk at h
  split at h
  case h_2 => cases h
  rename_i as has
  obtain ⟨a1, _, a3⟩ := ancsGo_ok _ _ _ has
  simp only [List.length_nil, Nat.zero_add] at a1 a3
  simp only [Bool.and_eq_true, List.all_eq_true, List.mem_range, Nat.ble_eq] at h
  obtain ⟨h1, h2, h3⟩ := h
  have hk : ∀ (k : Nat) (o : Oper), l[k]? = some o → ((!Nat.blt b k || o.after.toList.any fun e => Region.binds .any e && Nat.beq (e.on + 1) k) = true ∧ (match o.guard with | some (j, _) => Nat.blt j k | none => true) = true) := fun k o ho => by
    have := h3 k (List.getElem?_eq_some_iff.1 ho).1
    rw [ho] at this
    simpa only [Bool.and_eq_true] using this
  refine ⟨as, ⟨fun i o ho e he hb => ?_, fun i o x ho hx => ?_, h2, fun k o hbk ho => ?_, fun i o j want ho hg => ?_, h1⟩⟩
  · obtain ⟨m, q1, q2, q3⟩ := a3 i o ho
    exact q2 e he hb
  · obtain ⟨m, q1, q2, q3⟩ := a3 i o ho
    have hm : as.getD i 0 = m := by rw [List.getD_eq_getElem?_getD, q1]; rfl
    rw [hm] at hx
    obtain ⟨e, he, hb, hq⟩ := q3 x hx
    refine ⟨e, he, hb, hq.imp id ?_⟩
    rintro ⟨m', k1, k2⟩
    rw [List.getD_eq_getElem?_getD, k1]
    exact k2
  · have := (hk k o ho).1
    have hlt : Nat.blt b k = true := by rw [blt_dec]; simpa using hbk
    rw [hlt] at this
    simp only [Bool.not_true, Bool.false_or, List.any_eq_true, Bool.and_eq_true] at this
    obtain ⟨e, he, hb, hq⟩ := this
    exact ⟨e, he, hb, by simpa using hq⟩
  · have := (hk i o ho).2
    rw [hg] at this
    simpa using this

section
variable {P : Program} {r : Option Nat} {l : List Oper} {b : Nat} {as : List Nat}

theorem not_ready (hB : Bar b l as) {listed : Array Bool} (hsz : listed.size = l.length) (hcl : ∀ i, i < l.length → listed.getD i false = true → ∀ x, (as.getD i 0).testBit x = true → listed.getD x false = true) (hun : ∀ j, b ≤ j → j < l.length → listed.getD j false = false) {i0 : Nat} (h0 : i0 < b) (h1 : listed.getD i0 false = false)
    {k : Nat} (hk : k ∈ Region.ready .any l.toArray listed) : k < b := by
  obtain ⟨_, o, ho, hed⟩ := mem_ready.1 hk
  have ho : l[k]? = some o := by simpa using ho
  have hkl := (List.getElem?_eq_some_iff.1 ho).1
  rcases Nat.lt_trichotomy k b with h | h | h
  · exact h
  · subst h
    exfalso
    obtain ⟨e, he, hb, hq⟩ := hB.anc k o i0 ho (hB.all i0 h0)
    have hl := hed e (Array.mem_toList_iff.1 he) hb
    have hlt := hB.lt k o ho e he hb
    rcases hq with hq | hq
    · rw [hq, h1] at hl; cases hl
    · rw [hcl _ (by omega) hl _ hq] at h1; cases h1
  · exfalso
    obtain ⟨e, he, hb, hq⟩ := hB.nxt k o h ho
    have hl := hed e (Array.mem_toList_iff.1 he) hb
    rw [hun e.on (by omega) (by omega)] at hl
    cases hl

/-- Behind the call: one by one. -/
theorem any_post (hB : Bar b l as) {F : Fence} {n : Nat} {Q : Exit → Act → World → Prop} : ∀ (m k : Nat) (listed : Array Bool) (a : Act) (w : World), k + m = l.length → b ≤ k → listed.size = l.length → (∀ j, j < k → listed.getD j false = true) → (∀ j, k ≤ j → j < l.length → listed.getD j false = false) →
    wpOpsIn F n P l.toArray Q (List.range' k m) a w → wpAnyIn F n P .any l.toArray Q m listed a w
  | 0, k, listed, a, w, hkm, hbk, hsz, hl, hun, h => by
    refine And.intro ?_ h
    cases hr : Region.ready .any l.toArray listed with
    | nil => rfl
    | cons i q =>
      obtain ⟨h1, o, ho, _⟩ := mem_ready.1 (hr ▸ List.mem_cons_self (a := i) (l := q))
      have hil : i < l.length := by have := (Array.getElem?_eq_some_iff.1 ho).1; simpa using this
      have h2 := hl i (by omega)
      have h3 : i < listed.size := by omega
      simp only [Array.getD, h3, dif_pos] at h1 h2
      rw [h1] at h2
      cases h2
  | m + 1, k, listed, a, w, hkm, hbk, hsz, hl, hun, h => by
    rw [List.range'_succ, wpOpsIn_cons] at h
    have hkl : k < l.length := by omega
    have hks : k < listed.size := by omega
    have ho : l[k]? = some l[k] := List.getElem?_eq_getElem hkl
    have hkr : k ∈ Region.ready .any l.toArray listed := mem_ready.2 ⟨by
      have := hun k (Nat.le_refl _) hkl
      simp only [Array.getD, hks, dif_pos] at this ⊢
      exact this, l[k], by simpa using ho, fun e he hb => hl _ (hB.lt k _ ho e (Array.mem_toList_iff.2 he) hb)⟩
    refine ⟨fun hr => (by rw [hr] at hkr; cases hkr), fun i hi => ?_⟩
    have hik : i = k := by
      obtain ⟨h1, o, ho2, hed⟩ := mem_ready.1 hi
      have ho2 : l[i]? = some o := by simpa using ho2
      have hil := (List.getElem?_eq_some_iff.1 ho2).1
      have his : i < listed.size := by omega
      rcases Nat.lt_trichotomy i k with hlt | hlt | hlt
      · have h2 := hl i hlt
        simp only [Array.getD, his, dif_pos] at h1 h2
        rw [h1] at h2
        cases h2
      · exact hlt
      · obtain ⟨e, he, hb, hq⟩ := hB.nxt i o (by omega) ho2
        have hl2 := hed e (Array.mem_toList_iff.1 he) hb
        rw [hun e.on (by omega) (by omega)] at hl2
        cases hl2
    subst hik
    refine wpOpIn_mono (fun a' w' h' => any_post hB m (i + 1) _ a' w' (by omega) (by omega) (by simpa using hsz) (fun j hj => ?_) (fun j hj hjl => ?_) h') h
    · rw [getD_set hks]
      split
      · rfl
      · exact hl j (by omega)
    · rw [getD_set hks, if_neg (by omega)]
      exact hun j (by omega) hjl

/-- Ahead of the call. -/
theorem any_pre (hB : Bar b l as) {F : Fence} {n : Nat} {Q : Exit → Act → World → Prop} {N : Act → World → Prop} (hN : ∀ a w, N a w → wpOpsIn F n P l.toArray Q (List.range' b (l.length - b)) a w) :
    ∀ (fuel : Nat) (listed listed' : Array Bool) (a : Act) (w : World), listed.size = b → listed'.size = l.length → (∀ j, j < b → listed'.getD j false = listed.getD j false) → (∀ j, b ≤ j → j < l.length → listed'.getD j false = false) →
      (∀ i, i < l.length → listed'.getD i false = true → ∀ x, (as.getD i 0).testBit x = true → listed'.getD x false = true) → (List.range b).countP (fun k => !listed.getD k true) = fuel →
      wpAnyIn F n P .any (l.take b).toArray (xq N Q) fuel listed a w → wpAnyIn F n P .any l.toArray Q (fuel + (l.length - b)) listed' a w := by
  have hble := hB.le
  have htk : ∀ i, i < b → (l.take b)[i]? = l[i]? := fun i hi => List.getElem?_take_of_lt hi
  intro fuel
  induction fuel with
  | zero =>
    intro listed listed' a w hs hs' heq hun hcl hc h
    rw [Nat.zero_add]
    refine any_post hB _ b listed' a w (by omega) (Nat.le_refl _) hs' (fun j hj => ?_) hun (hN a w h.2)
    rw [heq j hj]
    have := List.countP_eq_zero.1 hc j (List.mem_range.2 hj)
    have hjs : j < listed.size := by omega
    simpa [Array.getD, hjs] using this
  | succ fuel ih =>
    intro listed listed' a w hs hs' heq hun hcl hc h
    -- one of those ahead is not done
    obtain ⟨i0, h0, h1⟩ : ∃ i0, i0 < b ∧ listed.getD i0 false = false := by
      have : 0 < (List.range b).countP (fun k => !listed.getD k true) := by omega
      obtain ⟨i0, q1, q2⟩ := List.countP_pos_iff.1 this
      have q1 := List.mem_range.1 q1
      have hjs : i0 < listed.size := by omega
      exact ⟨i0, q1, by simpa [Array.getD, hjs] using q2⟩
    have h1' : listed'.getD i0 false = false := by rw [heq i0 h0]; exact h1
    have hrd : ∀ i, i ∈ Region.ready .any l.toArray listed' → i ∈ Region.ready .any (l.take b).toArray listed ∧ i < b := fun i hi => by
      have hib := not_ready hB hs' hcl hun h0 h1' hi
      obtain ⟨q1, o, ho, hed⟩ := mem_ready.1 hi
      have ho : l[i]? = some o := by simpa using ho
      refine ⟨mem_ready.2 ⟨?_, o, by simpa [htk i hib] using ho, fun e he hb => ?_⟩, hib⟩
      · have k1 : i < listed'.size := by omega
        have k2 : i < listed.size := by omega
        have k3 := heq i hib
        simp only [Array.getD, k1, k2, dif_pos] at q1 k3 ⊢
        rw [← k3]; exact q1
      · rw [← heq e.on (by have := hB.lt i o ho e (Array.mem_toList_iff.2 he) hb; omega)]
        exact hed e he hb
    rw [Nat.succ_add]
    refine ⟨fun hr => ?_, fun i hi => ?_⟩
    · -- the first one that is not done is ready
      exfalso
      have : ∀ j, j < b → listed'.getD j false = true := by
        intro j
        induction j using Nat.strongRecOn with
        | _ j ihj =>
        intro hj
        cases hl : listed'.getD j false with
        | true => rfl
        | false =>
          exfalso
          have hjl : j < l.length := by omega
          have hjs : j < listed'.size := by omega
          have ho : l[j]? = some l[j] := List.getElem?_eq_getElem hjl
          have : j ∈ Region.ready .any l.toArray listed' := mem_ready.2 ⟨by simpa [Array.getD, hjs] using hl, l[j], by simpa using ho, fun e he hb => by
            have hlt := hB.lt j _ ho e (Array.mem_toList_iff.2 he) hb
            exact ihj e.on hlt (by omega)⟩
          rw [hr] at this
          cases this
      rw [this i0 h0] at h1'
      cases h1'
    · obtain ⟨hi2, hib⟩ := hrd i hi
      have hstep := h.2 i hi2
      have hil : i < l.length := by omega
      have ho : l[i]? = some l[i] := List.getElem?_eq_getElem hil
      obtain ⟨q1, o', ho', hed⟩ := mem_ready.1 hi
      have ho' : l[i]? = some o' := by simpa using ho'
      rw [ho] at ho'
      cases ho'
      have his : i < listed.size := by omega
      have his' : i < listed'.size := by omega
      have hunl : listed.getD i false = false := by
        rw [← heq i hib]
        simpa [Array.getD, his'] using q1
      have next : ∀ a' w', wpAnyIn F n P .any (l.take b).toArray (xq N Q) fuel (listed.setIfInBounds i true) a' w' → wpAnyIn F n P .any l.toArray Q (fuel + (l.length - b)) (listed'.setIfInBounds i true) a' w' := fun a' w' h' => by
        refine ih _ _ a' w' (by simpa using hs) (by simpa using hs') (fun j hj => ?_) (fun j hj hjl => ?_) (fun j hj hl x hx => ?_) ?_ h'
        · rw [getD_set his, getD_set his', heq j hj]
        · rw [getD_set his', if_neg (by omega)]
          exact hun j hj hjl
        · rw [getD_set his'] at hl ⊢
          split
          · rfl
          · split at hl
            · rename_i hij
              subst hij
              obtain ⟨e, he, hb, hq⟩ := hB.anc i _ x ho hx
              have hle := hed e (Array.mem_toList_iff.1 he) hb
              have hlt := hB.lt i _ ho e he hb
              rcases hq with rfl | hq
              · exact hle
              · exact hcl _ (by omega) hle x hq
            · exact hcl j hj hl x hx
        · have := countP_setE b (by omega) his (by simpa [Array.getD, his] using hunl)
          omega
      unfold wpOpIn at hstep ⊢
      have e1 : (l.take b).toArray[i]? = some l[i] := by simpa [htk i hib] using ho
      have e2 : l.toArray[i]? = some l[i] := by simpa using ho
      rw [e1] at hstep
      rw [e2]
      simp only at hstep ⊢
      have hw : Region.wanted l[i] (yielded (l.take b).toArray a.tmps) = Region.wanted l[i] (yielded l.toArray a.tmps) := by
        unfold Region.wanted
        cases hg : l[i].guard with
        | none => rfl
        | some p =>
          obtain ⟨j, want⟩ := p
          have hj := hB.gd i _ j want ho hg
          simp only [yielded]
          have : (l.take b).toArray[j]? = l.toArray[j]? := by simpa using htk j (by omega)
          rw [this]
      rw [hw] at hstep
      split
      · rename_i hw1
        rw [if_pos hw1] at hstep
        have := Oper.wpIn_mono next hstep
        exact ⟨this.1, upon_xq this.2⟩
      · rename_i hw1
        rw [if_neg hw1] at hstep
        exact ⟨hstep.1, next _ _ hstep.2⟩
end

/-! ### Code, reckoned so -/
def isDyn (o : Oper) : Bool :=
  match o.op with
  | .call c => (match c.callee with | .value (.tmp _) => true | _ => false)
  | _ => false
def dynB : List Oper → Nat
  | [] => 0
  | o :: r => bif isDyn o then 0 else dynB r + 1

/-- As 'drawW', up to a call of what lies in a slot; from there on in the text's order. -/
def drawS (P : Program) (rl : Option Nat) (I : Gh) (tb : Tb) : List (Option Tmp) → List Oper → S → (S → Prop) → (D → S → Prop) → Prop
  | _, [], s, K, _ => K s
  | h, o :: rest, s, K, Kp => bif isDyn o then seqW true P rl I tb h (o :: rest) s K Kp else
      tailC true s (o :: rest) ∧ runM true (guardS (hAt h) s.tm o.guard) (fun e => stepDW P tb e o s (fun s' => drawS P rl I tb (h ++ [o.dst]) rest s' K Kp)) (s.room o.dst ∧ drawS P rl I tb (h ++ [o.dst]) rest (s.put o.dst .un) K Kp) (s.room o.dst ∧ drawS P rl I tb (h ++ [o.dst]) rest (s.put o.dst (.gd false (.lit (.bool false)))) K Kp)

end Go.Ev
