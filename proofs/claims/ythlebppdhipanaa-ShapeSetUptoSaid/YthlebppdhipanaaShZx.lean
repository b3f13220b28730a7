/-
  Why a shape does not fit another one: the walk.
-/
import Derived.Test.YthlebppdhipanaaShVx
import Derived.Test.YthlebppdhipanaaSyma
import Derived.Test.YthlebppdhipanaaProg
import Derived.KernelRfl
import Derived.Test.YthlebppdhipanaaShQ
import Derived.Sort.KeysCollected
set_option linter.all false
namespace Go.Proofs.Ythlebppdhipanaa
open Go.Ev
open Go.Aw (tiOf fieldsOf sB)

/-! ### By definition -/
def wNone : List UInt8 := [32, 105, 115, 32, 110, 111, 110, 101, 32, 111, 102, 32]
def wNot : List UInt8 := [32, 105, 115, 32, 110, 111, 116, 32]
def wArgs : List UInt8 := [97, 114, 103, 117, 109, 101, 110, 116, 115]
def wField : List UInt8 := [110, 111, 32, 102, 105, 101, 108, 100, 32]
def tG (s : Sh) : List UInt8 := sB (textG s)
def whyN : Nat → Sh → Sh → List UInt8
  | 0, _, _ => []
  | N + 1, a, b =>
    if a.kind = 8 then (match a.kids.find? fun k => !fitsN N k b with | some k => whyN N k b | none => [])
    else if b.kind = 8 then tG a ++ (wNone ++ tG b)
    else if a.kind ≠ b.kind ∨ a.kind < 6 then tG a ++ (wNot ++ tG b)
    else match innerPs a b with
      | some l => (match l.find? fun p => !okP N p with
        | some p => if p.lack then wField ++ sB p.w else sB p.w ++ 46 :: whyN N p.a p.b
        | none => [])
      | none => wArgs

/-! ### The walks -/
def WhyOk (N : Nat) : Prop := ∀ a b, rightS a = true → rightS b = true → limP a → limP b → sz a + sz b ≤ N → N ≤ 2000 → fitsN N a b = false → FnO Try.prog 42 [.agg (rowS a), .agg (rowS b)] (.ret (.lit (.string (bA (whyN N a b)))))

noncomputable def woT (o1 o2 : Option Nat) (a b : Sh) : List D → Option (Prop × D) := ctr (fun s : ByteArray => [.lit (.string s), .ps o1 (rowS a) 0, .ps o2 (rowS b) 0]) (fun s => s.size ≤ 1000) (fun s => .lit (.string (bA (tG a ++ (sB s ++ tG b)))))
end Go.Proofs.Ythlebppdhipanaa

/-
  Why a shape does not fit another one: the walk, by kinds.
-/
namespace Go.Proofs.Ythlebppdhipanaa
open Go.Ev
open Go.Aw (tiOf fieldsOf sB)

noncomputable abbrev wiT (caps : List D) (q : Sh → Prop) (f : Sh → Bool) : List D → Option (Prop × D) := ixT 73 caps q f
end Go.Proofs.Ythlebppdhipanaa

/-
  slices.Sort of texts: the library's contract, at this program's numbers.
-/
namespace Go.Proofs.Ythlebppdhipanaa
open Go.Shelf Go.Ev

def rhoS : Ren := ⟨fun | 125 => 83 | 128 => 114 | 129 => 115 | 190 => 47 | 258 => 82 | 302 => 105 | 303 => 106 | 304 => 107 | 305 => 108 | 306 => 109 | 307 => 110 | 308 => 111 | 309 => 112 | 310 => 113 | 329 => 135 | 330 => 136 | 333 => 134 | 334 => 137 | 335 => 138 | 336 => 139 | 344 => 143 | n => n,
  fun | 31 => 22 | 46 => 30 | 51 => 121 | 53 => 123 | 131 => 118 | 182 => 112 | 183 => 113 | 218 => 135 | 222 => 139 | 228 => 144 | 229 => 145 | n => n, fun n => n⟩

theorem sortLays : Lays.n190 Try.prog rhoS := by
  constructor
  all_goals first | kernel_rfl | (intro w; kernel_rfl)

theorem sort_ok : SortOk Try.prog 47 :=
  ⟨by kernel_rfl, fun blk off cap zs w hH hb hz => calls_of_every_depth fun D => AnyS.slices_Sort_string_in sortLays D blk off cap zs w hH hb hz⟩
end Go.Proofs.Ythlebppdhipanaa

/-
  One of some: what comes of shapes, by definition; what stands in a map; small functions.
-/
namespace Go.Proofs.Ythlebppdhipanaa
open Go.Ev
open Go.Aw (tiOf fieldsOf sB)

/-! ### By definition -/
def fndM (k : ByteArray) : List (ByteArray × Sh) → Nat → Option (Nat × Sh)
  | [], _ => none
  | (n, s) :: r, i => if k = n then some (i, s) else fndM k r (i + 1)
def putK (k : ByteArray) (s : Sh) (kn : List (ByteArray × Sh)) : List (ByteArray × Sh) := match fndM k kn 0 with
  | some (j, _) => kn.set j (k, s)
  | none => kn ++ [(k, s)]
def putAll (kn : List (ByteArray × Sh)) : List Sh → List (ByteArray × Sh)
  | [] => kn
  | s :: r => putAll (putK (txt s) s kn) r
def getK (k : ByteArray) (kn : List (ByteArray × Sh)) : Sh := match fndM k kn 0 with
  | some (_, s) => s
  | none => sh0
def flat1 (s : Sh) : List Sh := if s.kind = 8 then s.kids else [s]
def flatS (l : List Sh) : List Sh := l.flatMap flat1
def flS (l : List Sh) : List Sh := match l.find? fun s => decide (s.kind = 1) with
  | some s => [s]
  | none => flatS l
def outK (kn : List (ByteArray × Sh)) : List Sh := (sortS (kn.map (·.1))).map fun k => getK k kn
def outS (fl : List Sh) : List Sh := outK (putAll [] fl)
def capS (s : Sh) : Sh := if fewS s then s else .mk 1 [] []
def oneS (out : List Sh) : Sh := match out with
  | [x] => x
  | _ => capS (.mk 8 [] out)
def orS (l : List Sh) : Sh := if l.isEmpty || !l.all goodS then .mk 0 [] [] else oneS (outS (flS l))

/-! ### Maps -/
def esM (kn : List (ByteArray × Sh)) : List (Value × D) := kn.map fun p => (.string p.1, .agg (rowS p.2))
@[simp] theorem esM_length (kn : List (ByteArray × Sh)) : (esM kn).length = kn.length := by simp [esM]
theorem findI_es (k : ByteArray) : ∀ (kn : List (ByteArray × Sh)) (i : Nat), findI (.string k) (esM kn) i = some ((fndM k kn i).map fun p => (p.1, .agg (rowS p.2)))
  | [], i => rfl
  | (n, s) :: r, i => by
    have ih := findI_es k r (i + 1)
    simp only [esM] at ih
    simp only [esM, List.map_cons, findI, fndM, eqK]
    by_cases h : k = n
    · rw [bytesEqb_iff.2 h, if_pos h]; rfl
    · have : bytesEqb k n = false := by
        cases hb : bytesEqb k n with
        | false => rfl
        | true => exact absurd (bytesEqb_iff.1 hb) h
      rw [this, if_neg h]
      exact ih
theorem und9 : Try.prog.underlying 9 = some .string := by kernel_rfl
theorem und56 : Try.prog.underlying 56 = some (.map 9 25) := by kernel_rfl
theorem findG_es (k : ByteArray) (kn : List (ByteArray × Sh)) : findG Try.prog 9 (.string k) (esM kn) = some ((fndM k kn 0).map fun p => (p.1, .agg (rowS p.2))) := by
  unfold findG
  rw [und9]
  exact findI_es k kn 0
theorem mapTI56 (k : ByteArray) : ∃ ti, mapTI Try.prog 56 (.string k) = some (ti, 9) := by
  have h : ∃ ti, tiOf Try.prog 25 = some ti := by simp
  obtain ⟨ti, hti⟩ := h
  exact ⟨ti, by simp [mapTI, und56, keyE, und9, litKey, hti]⟩
theorem putM_es (k : ByteArray) (s : Sh) (kn : List (ByteArray × Sh)) : putM (.string k) (.agg (rowS s)) (esM kn) ((fndM k kn 0).map fun p => (p.1, .agg (rowS p.2))) = esM (putK k s kn) := by
  unfold putK
  cases fndM k kn 0 with
  | none => simp [putM, esM]
  | some p => simp [putM, esM, List.map_set]

theorem fndM_some {k : ByteArray} : ∀ {kn : List (ByteArray × Sh)} {i j : Nat} {s : Sh}, fndM k kn i = some (j, s) → i ≤ j ∧ kn[j - i]? = some (k, s)
  | [], i, j, s, h => by simp [fndM] at h
  | (n, x) :: r, i, j, s, h => by
    simp only [fndM] at h
    split at h
    · rename_i hk; subst hk; cases h; simp
    · obtain ⟨h1, h2⟩ := fndM_some h
      refine ⟨by omega, ?_⟩
      rw [show j - i = (j - (i + 1)) + 1 by omega]
      simpa using h2
theorem fndM_none {k : ByteArray} : ∀ {kn : List (ByteArray × Sh)} {i : Nat}, fndM k kn i = none → ∀ p ∈ kn, p.1 ≠ k
  | [], i, _, p, hp => by simp at hp
  | (n, x) :: r, i, h, p, hp => by
    simp only [fndM] at h
    split at h
    · cases h
    · rename_i hk
      rcases List.mem_cons.1 hp with rfl | hp
      · exact fun q => hk q.symm
      · exact fndM_none h p hp
theorem fndM_mem {k : ByteArray} {kn : List (ByteArray × Sh)} (h : k ∈ kn.map (·.1)) : ∃ j s, fndM k kn 0 = some (j, s) := by
  cases hf : fndM k kn 0 with
  | some p => exact ⟨p.1, p.2, rfl⟩
  | none =>
    rw [List.mem_map] at h
    obtain ⟨p, hp, rfl⟩ := h
    exact absurd rfl (fndM_none hf p hp)
theorem putK_length (k : ByteArray) (s : Sh) (kn : List (ByteArray × Sh)) : (putK k s kn).length ≤ kn.length + 1 ∧ kn.length ≤ (putK k s kn).length ∧ 0 < (putK k s kn).length := by
  unfold putK
  split
  · rename_i j x h
    obtain ⟨_, h2⟩ := fndM_some h
    have := (List.getElem?_eq_some_iff.1 h2).1
    simp; omega
  · simp
theorem putAll_length : ∀ (l : List Sh) (kn : List (ByteArray × Sh)), (putAll kn l).length ≤ kn.length + l.length ∧ kn.length ≤ (putAll kn l).length ∧ (l ≠ [] → 0 < (putAll kn l).length)
  | [], kn => by simp [putAll]
  | s :: r, kn => by
    have h1 := putK_length (txt s) s kn
    have h2 := putAll_length r (putK (txt s) s kn)
    simp only [putAll, List.length_cons]
    refine ⟨by omega, by omega, fun _ => by omega⟩
theorem putAll_app : ∀ (l r : List Sh) (kn : List (ByteArray × Sh)), putAll kn (l ++ r) = putAll (putAll kn l) r
  | [], r, kn => rfl
  | s :: l, r, kn => putAll_app l r _

/-! ### Are all good? -/
set_option maxRecDepth 10000 in
theorem ngood_ok (n : Sh) (h : limP n) : FnO Try.prog 79 [.agg (rowS n)] (.ret (.lit (.bool (!goodS n)))) := by
  have ht := tbC_ok (shT_ok good_ok (tbool_bel _)) (tb0_ok Try.prog)
  refine fnO_wx ht fol Try.func79 rfl (by kernel_rfl) (by simp [Try.ntmps79]) (by kernel_rfl) fun I => ?_
  simp -implicitDefEqProofs [Try.ntmps79, shT_eq, tbool, h]
  exact seals_bool rfl
noncomputable def cgT : List D → Option (Prop × D) := ctr (fun l : List Sh => [.sq false 3 (rowsS l), .fn (.func 79) [] []]) (fun l => l.length ≤ 1000000 ∧ ∀ n ∈ l, limP n) (fun l => .lit (.bool (l.any fun n => !goodS n)))
theorem cgT_eq (l : List Sh) : cgT [.sq false 3 (rowsS l), .fn (.func 79) [] []] = some (l.length ≤ 1000000 ∧ ∀ n ∈ l, limP n, .lit (.bool (l.any fun n => !goodS n))) := ctr_enc (fun a b h => by simp at h; exact rowsS_inj _ _ h) l
theorem cgT_ok : ∀ xs p d, cgT xs = some (p, d) → p → FnO Try.prog 67 xs (.ret d) ∧ D.belL 0 xs = true ∧ D.bel 0 d = true :=
  ctr_ok fun l hl => ⟨contains_ok (gs := 79) (caps := []) (q := limP) (f := fun n => !goodS n) ⟨rfl, fun n hn => ngood_ok n hn⟩ l hl.1 hl.2, by simp, by simp⟩
set_option maxRecDepth 10000 in
theorem allGood_ok (l : List Sh) (hl : l.length ≤ 1000000) (h : ∀ n ∈ l, limP n) : FnO Try.prog 45 [.sq false 3 (rowsS l)] (.ret (.lit (.bool (l.all goodS)))) := by
  have ht := tbC_ok cgT_ok (tb0_ok Try.prog)
  refine fnO_wx ht fol Try.func45 rfl (by kernel_rfl) (by simp [Try.ntmps45]) (by kernel_rfl) fun I => ?_
  simp -implicitDefEqProofs [Try.ntmps45, cgT_eq, hl]
  refine ⟨h, seals_bool ?_⟩
  induction l with
  | nil => rfl
  | cons x r ih => simp [List.all_cons, ih (by simp at hl; omega) fun n hn => h n (by simp [hn])]
noncomputable def agT : List D → Option (Prop × D) := ctr (fun l : List Sh => [.sq false 3 (rowsS l)]) (fun l => l.length ≤ 1000000 ∧ ∀ n ∈ l, limP n) (fun l => .lit (.bool (l.all goodS)))
theorem agT_eq (l : List Sh) : agT [.sq false 3 (rowsS l)] = some (l.length ≤ 1000000 ∧ ∀ n ∈ l, limP n, .lit (.bool (l.all goodS))) := ctr_enc (fun a b h => by simp at h; exact rowsS_inj _ _ h) l
theorem agT_ok : ∀ xs p d, agT xs = some (p, d) → p → FnO Try.prog 45 xs (.ret d) ∧ D.belL 0 xs = true ∧ D.bel 0 d = true :=
  ctr_ok fun l hl => ⟨allGood_ok l hl.1 hl.2, by simp, by simp⟩

/-! ### Not too many parts -/
set_option maxRecDepth 10000 in
theorem cap_ok (s : Sh) (h : sz s ≤ 1000000) : FnO Try.prog 48 [.agg (rowS s)] (.ret (.agg (rowS (capS s)))) := by
  have ht := tbC_ok (g := 65) (shT_ok (q := fun s => sz s ≤ 1000000) (r := tbool fewS) (fun n hn => few_ok n hn) (tbool_bel fewS)) (tb0_ok Try.prog)
  refine fnO_wx ht fol Try.func48 rfl (by kernel_rfl) (by simp [Try.ntmps48]) (by kernel_rfl) fun I => ?_
  cases hF : fewS s with
  | true =>
    simp -implicitDefEqProofs [Try.ntmps48, shT_eq, tbool, hF, h]
    have : capS s = s := by simp [capS, hF]
    rw [this]
    exact .same _ (by simp)
  | false =>
    simp -implicitDefEqProofs [Try.ntmps48, shT_eq, tbool, hF, h]
    have : capS s = .mk 1 [] [] := by unfold capS; rw [hF]; rfl
    rw [this, rowS]
    exact seals_agg (sealsL_cons (.same _ (by simp)) (sealsL_cons (.nil _ _) (sealsL_cons (.nil _ _) sealsL_nil)))
/-- What is told of what holds more is told of what holds less. -/
theorem fnO_args {P : Program} {g : FuncId} {xs ys : List D} {o : Out} (h : FnO P g xs o) (hl : ys.length = xs.length) (hr : ∀ M (i : Nat) d d' v, xs[i]? = some d → ys[i]? = some d' → R M d' v → R M d v) : FnO P g ys o := by
  have key : ∀ M vs, argsOk M ys vs → argsOk M xs vs := fun M vs hv => ⟨by rw [hv.1, hl], fun i d hd => by
    have hi : i < ys.length := by rw [hl]; exact (List.getElem?_eq_some_iff.1 hd).1
    exact hr M i d ys[i] _ hd (List.getElem?_eq_getElem hi) (hv.2 i _ (List.getElem?_eq_getElem hi))⟩
  rcases h with ⟨h1, h2⟩ | ⟨h1, h2⟩
  · exact .inl ⟨h1, fun fz w vs hi hvs => h2 fz w vs hi (key _ _ hvs)⟩
  · exact .inr ⟨h1, fun fz w vs hi hvs => h2 fz w vs hi (key _ _ hvs)⟩
theorem capN_ok (l : List Sh) (h : sz (.mk 8 [] l) ≤ 1000000) : FnO Try.prog 48 [.agg [.lit (.int .i64 8), .lit (.slice none 0 0), .sq false 3 (rowsS l)]] (.ret (.agg (rowS (capS (.mk 8 [] l))))) := by
  refine fnO_args (cap_ok _ h) rfl fun M i d d' v h1 h2 hR => ?_
  cases i with
  | succ i => simp at h1
  | zero =>
    simp at h1 h2
    subst h1 h2
    cases hR with
    | agg _ cs hs g1 g2 =>
    refine .agg _ cs (by simpa using hs) (fun i d hi => ?_) (fun i d hi => ?_)
    · match i, hi with
      | 0, hi => exact g1 0 _ rfl
      | 1, hi => exact g1 1 _ rfl
      | 2, hi => exact g1 2 _ rfl
      | i + 3, hi => simp [rowS] at hi
    · match i, hi with
      | 0, hi => simp [rowS] at hi; subst hi; exact g2 0 _ rfl
      | 1, hi =>
        simp [rowS, strsD] at hi; subst hi
        have := (g2 1 _ rfl).litE
        rw [this]
        exact .sqn _ _ _
      | 2, hi => simp [rowS] at hi; subst hi; exact g2 2 _ rfl
      | i + 3, hi => simp [rowS] at hi
end Go.Proofs.Ythlebppdhipanaa

/-
  One of some: what is so of maps that were filled; how many parts (plain).
-/
namespace Go.Proofs.Ythlebppdhipanaa
open Go.Ev
open Go.Aw (tiOf fieldsOf sB)

theorem szs_nil : szs [] = 0 := rfl
theorem szs_cons (x : Sh) (l : List Sh) : szs (x :: l) = sz x + szs l := by simp [szs, sz, partsLs]
theorem szs_app : ∀ (l r : List Sh), szs (l ++ r) = szs l + szs r
  | [], r => by simp [szs_nil]
  | x :: l, r => by rw [List.cons_append, szs_cons, szs_cons, szs_app l r]; omega
theorem szs_len : ∀ l : List Sh, l.length ≤ szs l
  | [] => Nat.zero_le _
  | x :: r => by
    have h1 := szs_len r
    have h2 := sz_pos x
    rw [szs_cons, List.length_cons]
    omega
theorem szs_perm {l r : List Sh} (h : l.Perm r) : szs l = szs r := by
  induction h with
  | nil => rfl
  | cons x _ ih => rw [szs_cons, szs_cons, ih]
  | swap x y l => simp only [szs_cons]; omega
  | trans _ _ a b => exact a.trans b
theorem sz_or (l : List Sh) : sz (.mk 8 [] l) = szs l + 1 := sz_eq _
theorem szs_flat1 (s : Sh) : szs (flat1 s) ≤ sz s := by
  unfold flat1
  split
  · rw [sz_eq]; omega
  · rw [szs_cons, szs_nil]; omega
theorem szs_flat : ∀ l : List Sh, szs (flatS l) ≤ szs l
  | [] => Nat.zero_le _
  | x :: r => by
    have h1 := szs_flat r
    have h2 := szs_flat1 x
    simp only [flatS, List.flatMap_cons] at h1 ⊢
    rw [szs_app, szs_cons]
    omega
theorem szs_mem {l : List Sh} {x : Sh} (h : x ∈ l) : sz x ≤ szs l := sz_mem h
theorem flat_mem {l : List Sh} {x : Sh} (h : x ∈ flatS l) : ∃ s ∈ l, (s.kind = 8 ∧ x ∈ s.kids) ∨ (s.kind ≠ 8 ∧ x = s) := by
  simp only [flatS, List.mem_flatMap] at h
  obtain ⟨s, hs, hx⟩ := h
  refine ⟨s, hs, ?_⟩
  unfold flat1 at hx
  split at hx
  · rename_i h8; exact .inl ⟨h8, hx⟩
  · rename_i h8; simp at hx; exact .inr ⟨h8, hx⟩

/-! ### Keys -/
def KN (kn : List (ByteArray × Sh)) : Prop := (kn.map (·.1)).Nodup
theorem getK_mem {k : ByteArray} {s : Sh} {kn : List (ByteArray × Sh)} (hn : KN kn) (h : (k, s) ∈ kn) : getK k kn = s := by
  obtain ⟨j, x, hf⟩ := fndM_mem (kn := kn) (k := k) (List.mem_map.2 ⟨(k, s), h, rfl⟩)
  have hx : getK k kn = x := by simp [getK, hf]
  rw [hx]
  obtain ⟨_, h2⟩ := fndM_some hf
  rw [Nat.sub_zero] at h2
  obtain ⟨i, hi, he⟩ := List.mem_iff_getElem.1 h
  obtain ⟨hj, he2⟩ := List.getElem?_eq_some_iff.1 h2
  have : i = j := by
    have hn' := List.pairwise_iff_getElem.1 hn
    rcases Nat.lt_trichotomy i j with h | h | h
    · exact (hn' i j (by simpa using hi) (by simpa using hj) h (by simp [he, he2])).elim
    · exact h
    · exact (hn' j i (by simpa using hj) (by simpa using hi) h (by simp [he, he2])).elim
  subst this
  rw [he] at he2
  exact (Prod.mk.inj he2).2.symm
theorem putK_keys (k : ByteArray) (s : Sh) (kn : List (ByteArray × Sh)) (hn : KN kn) : KN (putK k s kn) := by
  unfold putK KN
  split
  · rename_i j x h
    obtain ⟨_, h2⟩ := fndM_some h
    rw [Nat.sub_zero] at h2
    have : (kn.set j (k, s)).map (·.1) = kn.map (·.1) := by
      rw [List.map_set]
      apply List.ext_getElem?
      intro i
      rw [List.getElem?_set]
      split
      · rename_i hij
        subst hij
        have hj := (List.getElem?_eq_some_iff.1 h2).1
        have := (List.getElem?_eq_some_iff.1 h2).2
        simp [hj, this]
      · rfl
    rw [this]
    exact hn
  · rename_i h
    have h := fndM_none h
    rw [List.map_append, List.nodup_append]
    refine ⟨hn, by simp, fun a ha b hb => ?_⟩
    simp at hb
    subst hb
    rw [List.mem_map] at ha
    obtain ⟨p, hp, rfl⟩ := ha
    exact h p hp
theorem putAll_keys : ∀ (l : List Sh) (kn : List (ByteArray × Sh)), KN kn → KN (putAll kn l)
  | [], _, h => h
  | s :: r, kn, h => putAll_keys r _ (putK_keys _ _ _ h)
theorem putK_szs (k : ByteArray) (s : Sh) (kn : List (ByteArray × Sh)) : szs ((putK k s kn).map (·.2)) ≤ szs (kn.map (·.2)) + sz s := by
  unfold putK
  split
  · rename_i j x h
    have : ∀ (l : List Sh) (j : Nat), szs (l.set j s) ≤ szs l + sz s := by
      intro l
      induction l with
      | nil => intro j; simp [szs_nil]
      | cons y r ih =>
        intro j
        cases j with
        | zero => rw [List.set_cons_zero, szs_cons, szs_cons]; omega
        | succ j => have := ih j; rw [List.set_cons_succ, szs_cons, szs_cons]; omega
    rw [List.map_set]
    exact this _ _
  · rw [List.map_append, szs_app]
    simp [szs_cons, szs_nil]
theorem putAll_szs : ∀ (l : List Sh) (kn : List (ByteArray × Sh)), szs ((putAll kn l).map (·.2)) ≤ szs (kn.map (·.2)) + szs l
  | [], kn => by simp [putAll, szs_nil]
  | s :: r, kn => by
    have h1 := putAll_szs r (putK (txt s) s kn)
    have h2 := putK_szs (txt s) s kn
    rw [szs_cons, putAll]
    omega

theorem sortS_perm (xs : List ByteArray) : (sortS xs).Perm xs := by
  unfold sortS
  have h := (List.mergeSort_perm (xs.map (·.data.toList)) (fun x y => decide (x ≤ y))).map fun l => (⟨l.toArray⟩ : ByteArray)
  have e : (xs.map (·.data.toList)).map (fun l => (⟨l.toArray⟩ : ByteArray)) = xs := by
    rw [List.map_map]
    conv => rhs; rw [← List.map_id xs]
    exact List.map_congr_left fun x _ => by simp
  rw [e] at h
  exact h
theorem outK_perm {kn : List (ByteArray × Sh)} (hn : KN kn) : (outK kn).Perm (kn.map (·.2)) := by
  have h := (sortS_perm (kn.map (·.1))).map fun k => getK k kn
  have e : (kn.map (·.1)).map (fun k => getK k kn) = kn.map (·.2) := by
    rw [List.map_map]
    exact List.map_congr_left fun p hp => getK_mem hn (by exact hp)
  rw [e] at h
  exact h
theorem out_szs (fl : List Sh) : szs (outS fl) ≤ szs fl := by
  have h1 := szs_perm (outK_perm (putAll_keys fl [] List.nodup_nil))
  have h2 := putAll_szs fl []
  simp only [List.map_nil, szs_nil] at h2
  unfold outS
  omega
end Go.Proofs.Ythlebppdhipanaa

/-
  One of some: the walk, from the map on.
-/
namespace Go.Proofs.Ythlebppdhipanaa
open Go.Ev
open Go.Aw (tiOf fieldsOf sB)

noncomputable def orC : Code := match Try.f22.body with
  | some (.seq _ (.scope (.seq _ (.seq _ (.seq _ (.seq _ c)))))) => c
  | _ => .skip
noncomputable def orC2 : Code := match orC with
  | .seq _ (.seq _ c) => c
  | _ => .skip
def orQ (d : D) : X → S → Prop := X.noGoto (leavesK Try.prog Try.f22 (fun d0 s => Seals s.hp d0 d) (fun _ _ => False))

def orS2 (kn : List (ByteArray × Sh)) : S := S.mk 99 [(2, .pt 0 0), (6, .mp 1)] [(0, .cells 25 none zrow), (1, .map (esM kn))] 2 [] none []
def orF2 (x : D) (k : Blk) (fl : List Sh) (i : Nat) : S := S.mk 99 [(2, .pt 0 0), (6, .mp 2), (47, x), (48, .lit (.int .i64 fl.length)), (49, .lit (.int .i64 i))] [(0, .cells 25 none zrow), (1, k), (2, .map (esM (putAll [] (fl.take i))))] 3 [] none []

noncomputable def txT2 : List D → Option (Prop × D) := shT (fun n => limP n ∧ rightS n = true) (fun n => .lit (.string (txt n)))
theorem txT2_eq (n : Sh) : txT2 [.agg (rowS n)] = some (limP n ∧ rightS n = true, .lit (.string (txt n))) := shT_eq _ _ n
theorem txT2_ok : ∀ xs p d, txT2 xs = some (p, d) → p → FnO Try.prog 46 xs (.ret d) ∧ D.belL 0 xs = true ∧ D.bel 0 d = true := shT_ok textP_ok (by simp)

theorem rowsS_flat (l : List Sh) : (List.map List.length (rowsS l)).sum = l.length * 3 := by
  induction l with
  | nil => simp [rowsS]
  | cons x r ih => simp [rowsS, ih, Nat.add_mul]; omega

theorem flat_drop (l : List Sh) (i : Nat) (h : i < l.length) : List.take 3 (List.drop (i * 3) (rowsS l).flatten) = rowS l[i] := by
  induction l generalizing i with
  | nil => simp at h
  | cons x r ih =>
    simp only [rowsS, List.flatten_cons]
    cases i with
    | zero =>
      rw [Nat.zero_mul, List.drop_zero, List.take_append_of_le_length (by simp)]
      simp
    | succ i =>
      rw [show (i + 1) * 3 = (rowS x).length + i * 3 by simp; omega, List.drop_append, List.drop_eq_nil_of_le (by omega), Nat.add_sub_cancel_left, List.nil_append, ih i (by simpa using h)]
      simp
theorem rowsF_bel (n : Nat) (l : List Sh) : D.belL n (rowsS l).flatten = true := by
  refine belL_up n _ (belL_all fun d hd => ?_)
  rw [List.mem_flatten] at hd
  obtain ⟨r, hr, hd⟩ := hd
  rw [rowsS_map, List.mem_map] at hr
  obtain ⟨x, _, rfl⟩ := hr
  obtain ⟨j, hj, rfl⟩ := List.mem_iff_getElem.1 hd
  exact belL_get 0 _ j _ (rowS_bel x) (List.getElem?_eq_getElem hj)
theorem rowsF_ren (f : Nat → Nat) (l : List Sh) : D.renL f (rowsS l).flatten = (rowsS l).flatten := renL_free f _ (rowsF_bel 0 l)

theorem esM_ren (f : Nat → Nat) (kn : List (ByteArray × Sh)) : List.map (fun p => (p.fst, D.ren f p.snd)) (esM kn) = esM kn := by
  simp [esM]
theorem esM_bel (n : Nat) (kn : List (ByteArray × Sh)) : D.belL n (List.map (fun x => x.snd) (esM kn)) = true := by
  refine belL_up n _ (belL_all fun d hd => ?_)
  simp only [esM, List.mem_map, List.map_map] at hd
  obtain ⟨p, _, rfl⟩ := hd
  simp

set_option maxHeartbeats 4000000 in
set_option maxRecDepth 20000 in
theorem or_mid1 (I : Gh) (fl : List Sh) (d : D) (hl : fl.length ≤ 1000000) (hP : ∀ s ∈ fl, limP s ∧ rightS s = true) (h : W Try.prog none I orC2 (orQ d) (orS2 (putAll [] fl))) :
    W Try.prog none I orC (orQ d) (S.mk 99 [(2, .pt 0 0), (3, .ow 1 fl.length)] [(0, .cells 25 none zrow), (1, .cells 25 (some 3) (rowsS fl).flatten)] 2 [] none []) := by
  have ht := tbC_ok txT2_ok (tb0_ok Try.prog)
  show W Try.prog none I (.seq (.region 14 _ false) _) _ _
  refine w_seq (w_seqOk (seqOk_make rfl rfl rfl (by simp) (seqOk_step rfl rfl rfl ?_)))
  simp -implicitDefEqProofs
  refine seqOk_nil (by simp) ?_
  simp -implicitDefEqProofs
  refine w_seq (w_seq (wx_ok ht fol _ _ _ (by kernel_rfl) ?_))
  simp -implicitDefEqProofs
  refine w_block ?_
  refine w_loop (fun i : { i : Nat // i ≤ fl.length } => orF2 (.ow 1 fl.length) (.cells 25 (some 3) (rowsS fl).flatten) fl i.1) (fun i => fl.length - i.1) ⟨0, Nat.zero_le _⟩ (le_of [0, 1, 2] (by simp [orF2, zrow, putAll, esM, rowsF_bel, rowsF_ren])) fun ⟨i, hi⟩ => ?_
  have hw : IntKind.i64.wrap ((i : Int) + 1) = (i : Int) + 1 := wrap64 (by omega) (by omega)
  refine w_seq (wx_ok ht fol _ _ _ (by kernel_rfl) ?_)
  by_cases hil : i < fl.length
  · simp -implicitDefEqProofs [orF2, hil]
    refine w_seq (wx_ok ht fol _ _ _ (by kernel_rfl) ?_)
    simp -implicitDefEqProofs
    refine w_seq (w_block (w_seq (wx_ok ht fol _ _ _ (by kernel_rfl) ?_)))
    simp -implicitDefEqProofs [hil]
    have hrs := rowsS_flat fl
    refine ⟨by omega, by omega, ?_⟩
    refine w_drawOk (md := true) ht 4 fol (by kernel_rfl) (by kernel_rfl) ?_
    simp -implicitDefEqProofs [txT2_eq, flat_drop fl i hil]
    refine ⟨hP _ (List.getElem_mem hil), ?_⟩
    obtain ⟨ti, hti⟩ := mapTI56 (txt fl[i])
    refine seqOk_cons rfl rfl (opS_mput (kv := .string (txt fl[i])) rfl (by simp) rfl rfl hti rfl (findG_es _ _) (by simp) ?_)
    simp -implicitDefEqProofs
    rw [putM_es]
    refine seqOk_nil (by simp) ?_
    simp -implicitDefEqProofs
    refine wx_ok ht fol _ _ _ (by kernel_rfl) ?_
    simp -implicitDefEqProofs [hw]
    have e1 : putAll [] (fl.take (i + 1)) = putK (txt fl[i]) fl[i] (putAll [] (fl.take i)) := by
      rw [List.take_succ_eq_append_getElem hil, putAll_app]; rfl
    exact ⟨i + 1, le_of [0, 1, 2] (by simp [orF2, e1, rowsF_bel, rowsF_ren, esM_ren, esM_bel, zrow]), by omega, by omega⟩
  · have : i = fl.length := by omega
    subst this
    simp -implicitDefEqProofs [orF2]
    refine w_seq (wx_ok ht fol _ _ _ (by kernel_rfl) ?_)
    simp -implicitDefEqProofs [X.inBlock]
    exact w_weaken (le_of [0, 2] (by simp [orS2, esM_ren, esM_bel, zrow])) h
set_option maxHeartbeats 4000000 in
set_option maxRecDepth 20000 in
theorem or_mid1s (I : Gh) (fl : List Sh) (d : D) (hl : fl.length ≤ 1000000) (hP : ∀ s ∈ fl, limP s ∧ rightS s = true) (h : W Try.prog none I orC2 (orQ d) (orS2 (putAll [] fl))) :
    W Try.prog none I orC (orQ d) (S.mk 99 [(2, .pt 0 0), (3, .sl 1 0 fl.length (some fl.length))] [(0, .cells 25 none zrow), (1, .cells 25 none (rowsS fl).flatten)] 2 [] none []) := by
  have ht := tbC_ok txT2_ok (tb0_ok Try.prog)
  show W Try.prog none I (.seq (.region 14 _ false) _) _ _
  refine w_seq (w_seqOk (seqOk_make rfl rfl rfl (by simp) (seqOk_step rfl rfl rfl ?_)))
  simp -implicitDefEqProofs
  refine seqOk_nil (by simp) ?_
  simp -implicitDefEqProofs
  refine w_seq (w_seq (wx_ok ht fol _ _ _ (by kernel_rfl) ?_))
  simp -implicitDefEqProofs
  refine w_block ?_
  refine w_loop (fun i : { i : Nat // i ≤ fl.length } => orF2 (.sl 1 0 fl.length (some fl.length)) (.cells 25 none (rowsS fl).flatten) fl i.1) (fun i => fl.length - i.1) ⟨0, Nat.zero_le _⟩ (le_of [0, 1, 2] (by simp [orF2, zrow, putAll, esM, rowsF_bel, rowsF_ren])) fun ⟨i, hi⟩ => ?_
  have hw : IntKind.i64.wrap ((i : Int) + 1) = (i : Int) + 1 := wrap64 (by omega) (by omega)
  refine w_seq (wx_ok ht fol _ _ _ (by kernel_rfl) ?_)
  by_cases hil : i < fl.length
  · simp -implicitDefEqProofs [orF2, hil]
    refine w_seq (wx_ok ht fol _ _ _ (by kernel_rfl) ?_)
    simp -implicitDefEqProofs
    refine w_seq (w_block (w_seq (wx_ok ht fol _ _ _ (by kernel_rfl) ?_)))
    simp -implicitDefEqProofs [hil]
    have hrs := rowsS_flat fl
    refine ⟨by omega, by omega, ?_⟩
    refine w_drawOk (md := true) ht 4 fol (by kernel_rfl) (by kernel_rfl) ?_
    simp -implicitDefEqProofs [txT2_eq, flat_drop fl i hil]
    refine ⟨hP _ (List.getElem_mem hil), ?_⟩
    obtain ⟨ti, hti⟩ := mapTI56 (txt fl[i])
    refine seqOk_cons rfl rfl (opS_mput (kv := .string (txt fl[i])) rfl (by simp) rfl rfl hti rfl (findG_es _ _) (by simp) ?_)
    simp -implicitDefEqProofs
    rw [putM_es]
    refine seqOk_nil (by simp) ?_
    simp -implicitDefEqProofs
    refine wx_ok ht fol _ _ _ (by kernel_rfl) ?_
    simp -implicitDefEqProofs [hw]
    have e1 : putAll [] (fl.take (i + 1)) = putK (txt fl[i]) fl[i] (putAll [] (fl.take i)) := by
      rw [List.take_succ_eq_append_getElem hil, putAll_app]; rfl
    exact ⟨i + 1, le_of [0, 1, 2] (by simp [orF2, e1, rowsF_bel, rowsF_ren, esM_ren, esM_bel, zrow]), by omega, by omega⟩
  · have : i = fl.length := by omega
    subst this
    simp -implicitDefEqProofs [orF2]
    refine w_seq (wx_ok ht fol _ _ _ (by kernel_rfl) ?_)
    simp -implicitDefEqProofs [X.inBlock]
    exact w_weaken (le_of [0, 2] (by simp [orS2, esM_ren, esM_bel, zrow])) h
end Go.Proofs.Ythlebppdhipanaa

/-
  One of some: the walk: the keys, in any order; sorted.
-/
namespace Go.Proofs.Ythlebppdhipanaa
open Go.Ev
open Go.Aw (tiOf fieldsOf sB)

noncomputable def orC3 : Code := match orC2 with
  | .seq _ (.seq _ (.seq _ c)) => c
  | _ => .skip
def keyA (kn : List (ByteArray × Sh)) (j : Nat) : ByteArray := (kn[j]?.getD (⟨#[]⟩, sh0)).1
def keysD (ks : List ByteArray) : List D := ks.map fun b => .lit (.string b)
theorem keysD_bel (n : Nat) (ks : List ByteArray) : D.belL n (keysD ks) = true := by
  refine belL_up n _ (belL_all fun d hd => ?_)
  simp only [keysD, List.mem_map] at hd
  obtain ⟨p, _, rfl⟩ := hd
  simp
theorem keysD_ren (f : Nat → Nat) (ks : List ByteArray) : D.renL f (keysD ks) = keysD ks := renL_free f _ (keysD_bel 0 ks)
@[simp] theorem keysD_length (ks : List ByteArray) : (keysD ks).length = ks.length := by simp [keysD]
def orS3 (kn : List (ByteArray × Sh)) (ks : List ByteArray) : S := S.mk 99 [(2, .pt 0 0), (6, .mp 1), (9, .ow 2 ks.length)] [(0, .cells 25 none zrow), (1, .map (esM kn)), (2, .cells 9 (some 1) (keysD ks))] 3 [] none []
def orF3 (kn : List (ByteArray × Sh)) (seen : List Nat) : S := S.mk 99 [(2, .pt 0 0), (6, .mp 1), (9, .ow 2 seen.length), (62, .pt 3 0)] [(0, .cells 25 none zrow), (1, .map (esM kn)), (2, .cells 9 (some 1) (keysD (seen.map (keyA kn)))), (3, .mit (some 1) (esM kn).length seen (esM kn).length)] 4 [] none []

set_option maxHeartbeats 4000000 in
set_option maxRecDepth 20000 in
theorem or_mid2 (I : Gh) (kn : List (ByteArray × Sh)) (d : D) (hl : kn.length ≤ 1000000) (hp : 0 < kn.length) (h : W Try.prog none I orC3 (orQ d) (orS3 kn (sortS (kn.map (·.1))))) :
    W Try.prog none I orC2 (orQ d) (orS2 kn) := by
  have ht := tb0_ok Try.prog
  show W Try.prog none I (.seq (.region 20 _ false) _) _ _
  refine w_seq (w_seqOk (seqOk_step rfl rfl rfl ?_))
  simp -implicitDefEqProofs [orS2]
  refine seqOk_cons rfl rfl (opS_mlen rfl rfl rfl rfl und56 (by simp) rfl rfl (by simp) ?_)
  simp -implicitDefEqProofs
  refine seqOk_step rfl rfl rfl ?_
  simp -implicitDefEqProofs
  refine ⟨⟨by omega, by omega⟩, seqOk_step rfl rfl rfl ?_⟩
  simp -implicitDefEqProofs
  refine seqOk_nil (by simp) ?_
  simp -implicitDefEqProofs
  refine w_seq (w_seq (w_seqOk (seqOk_step rfl rfl rfl ?_)))
  simp -implicitDefEqProofs
  refine seqOk_cons rfl rfl (opS_range rfl und56 (by simp) rfl rfl (by simp) ?_)
  simp -implicitDefEqProofs
  refine seqOk_nil (by simp) ?_
  simp -implicitDefEqProofs
  refine w_block ?_
  refine w_loop (fun x : { x : List Nat // x.Nodup ∧ ∀ j ∈ x, j < kn.length } => orF3 kn x.1) (fun x => kn.length - x.1.length) ⟨[], List.nodup_nil, by simp⟩ (le_of [0, 1, 2, 3] (by simp [orF3, zrow, esM_ren, esM_bel, keysD])) fun ⟨seen, hnd, hlt⟩ => ?_
  have hsl : seen.length ≤ kn.length := by
    have := hnd.length_le_of_subset (l₂ := List.range kn.length) (fun j hj => List.mem_range.2 (hlt j hj))
    simpa using this
  refine w_seq (w_seqOk (seqOk_cons rfl rfl (opS_next rfl (by simp [orF3]) rfl rfl rfl (by simp [orF3]) (fun hover => ?_) (fun j k dd hj hns => ?_))))
  · simp -implicitDefEqProofs [orF3]
    refine seqOk_step rfl rfl rfl ?_
    simp -implicitDefEqProofs
    refine seqOk_nil (by simp) ?_
    simp -implicitDefEqProofs
    refine w_seq (wx_ok ht fol _ _ _ (by kernel_rfl) ?_)
    simp -implicitDefEqProofs [X.inBlock]
    have hover : ∀ j, j < kn.length → j ∈ seen := fun j hj => hover j (by simpa using hj)
    have hperm : (seen.map (keyA kn)).Perm (kn.map (·.1)) := by
      have h1 : seen.Perm (List.range kn.length) := (List.perm_ext_iff_of_nodup hnd List.nodup_range).2 fun j => ⟨fun hj => List.mem_range.2 (hlt j hj), fun hj => hover j (List.mem_range.1 hj)⟩
      have h2 : (List.range kn.length).map (keyA kn) = kn.map (·.1) := by
        apply List.ext_getElem
        · simp
        · intro i h3 h4
          have : i < kn.length := by simpa using h4
          simp [keyA, this]
      rw [← h2]
      exact h1.map _
    have hsort : sortS (seen.map (keyA kn)) = sortS (kn.map (·.1)) := by
      unfold sortS
      have := mergeSort_of_perm (hperm.map (·.data.toList))
      exact congrArg _ this
    have hlen : seen.length = kn.length := by
      have := hperm.length_eq
      simpa using this
    refine w_seq (w_seqOk (seqOk_step rfl rfl rfl ?_))
    simp -implicitDefEqProofs
    refine seqOk_step rfl rfl rfl ?_
    simp -implicitDefEqProofs
    refine callS_sort sort_ok (xs := seen.map (keyA kn)) (ty := 9) rfl (by simp) (by simp; omega) (by simp; omega) trivial (by simp) ?_
    refine seqOk_nil (by simp) ?_
    rw [hsort]
    simp -implicitDefEqProofs
    refine w_weaken (le_of [0, 1, 2] ?_) h
    simp -implicitDefEqProofs [orS3, keysD_ren, keysD_bel, esM_ren, esM_bel, zrow, sortS_length, hlen]
    rfl
  · have hjl : j < kn.length := by
      have := (List.getElem?_eq_some_iff.1 hj).1
      simpa using this
    have hk : k = .string (keyA kn j) ∧ dd = .agg (rowS (kn[j]).2) := by
      simp only [esM, List.getElem?_map, List.getElem?_eq_getElem hjl, Option.map_some, Option.some.injEq, Prod.mk.injEq] at hj
      exact ⟨by rw [← hj.1]; simp [keyA, hjl], hj.2.symm⟩
    obtain ⟨rfl, rfl⟩ := hk
    have hns : j ∉ seen := hns
    have hnd2 : (seen ++ [j]).Nodup := by
      rw [List.nodup_append]
      exact ⟨hnd, by simp, fun x hx y hy => by simp at hy; subst hy; exact fun q => hns (q ▸ hx)⟩
    have hlt2 : ∀ x ∈ seen ++ [j], x < kn.length := fun x hx => by
      rcases List.mem_append.1 hx with hx | hx
      · exact hlt x hx
      · simp at hx; subst hx; exact hjl
    have hsl2 : seen.length + 1 ≤ kn.length := by
      have := hnd2.length_le_of_subset (l₂ := List.range kn.length) (fun j hj => List.mem_range.2 (hlt2 j hj))
      simpa using this
    simp -implicitDefEqProofs [orF3]
    refine seqOk_step rfl rfl rfl ?_
    simp -implicitDefEqProofs
    refine seqOk_nil (by simp) ?_
    simp -implicitDefEqProofs
    refine w_seq (wx_ok ht fol _ _ _ (by kernel_rfl) ?_)
    simp -implicitDefEqProofs [X.inBlock]
    refine w_block (w_seq (w_seqOk (seqOk_cons rfl rfl (opS_entry (i := 3) (m := 1) (es := esM kn) (seen := seen) (j := j) rfl (by simp) rfl (by simp) rfl hj (by simp) ?_))))
    simp -implicitDefEqProofs
    refine seqOk_step rfl rfl rfl ?_
    simp -implicitDefEqProofs [dV]
    refine seqOk_step rfl rfl rfl ?_
    simp -implicitDefEqProofs
    refine seqOk_nil (by simp) ?_
    simp -implicitDefEqProofs
    refine wx_ok ht fol _ _ _ (by kernel_rfl) ?_
    simp -implicitDefEqProofs [X.inBlock]
    have e1 : keysD (seen.map (keyA kn)) ++ [.lit (.string (keyA kn j))] = keysD ((seen ++ [j]).map (keyA kn)) := by simp [keysD]
    rw [e1]
    exact ⟨⟨by omega, by omega⟩, seen ++ [j], le_of [0, 1, 5, 3] (by simp -implicitDefEqProofs [-List.map_append, keysD_ren, keysD_bel, esM_ren, esM_bel, zrow]), ⟨hnd2, hlt2⟩, by simp; omega⟩
end Go.Proofs.Ythlebppdhipanaa

/-
  One of some: the walk: what stands at the keys; the end.
-/
namespace Go.Proofs.Ythlebppdhipanaa
open Go.Ev
open Go.Aw (tiOf fieldsOf sB)

/-- What lies in the list while it is filled. -/
def outD (out : List Sh) (i : Nat) : List D := (rowsS (out.take i)).flatten ++ (List.replicate (out.length - i) zrow).flatten
def orF4 (kn : List (ByteArray × Sh)) (ks : List ByteArray) (out : List Sh) (i : Nat) : S := S.mk 99 [(2, .pt 0 0), (6, .mp 1), (11, .ow 3 out.length), (76, .ow 2 ks.length), (77, .lit (.int .i64 ks.length)), (78, .lit (.int .i64 i))] [(0, .cells 25 none zrow), (1, .map (esM kn)), (2, .cells 9 (some 1) (keysD ks)), (3, .cells 25 (some 3) (outD out i))] 4 [] none []

theorem keysD_get (ks : List ByteArray) (i : Nat) (h : i < (keysD ks).length) : (keysD ks)[i] = .lit (.string (ks[i]'(by simpa using h))) := by simp [keysD]
theorem zeros_sh : ∀ n : Nat, zerosE { size := 3, bytes := 56, k := Aw.TK.st [(0, 3), (1, 22), (2, 23)], z := [Aw.Z.zn IntKind.i64, Aw.Z.zl, Aw.Z.zl] } n = (List.replicate n zrow).flatten
  | 0 => rfl
  | n + 1 => by rw [zerosE, zeros_sh n]; rfl
theorem outD_bel (n : Nat) (out : List Sh) (i : Nat) : D.belL n (outD out i) = true := by
  refine belL_up n _ (belL_all fun d hd => ?_)
  unfold outD at hd
  rcases List.mem_append.1 hd with hd | hd
  · obtain ⟨j, hj, rfl⟩ := List.mem_iff_getElem.1 hd
    exact belL_get 0 _ j _ (rowsF_bel 0 _) (List.getElem?_eq_getElem hj)
  · rw [List.mem_flatten] at hd
    obtain ⟨r, hr, hd⟩ := hd
    rw [List.mem_replicate] at hr
    rw [hr.2] at hd
    simp only [zrow, List.mem_cons, List.mem_nil_iff, or_false] at hd
    rcases hd with rfl | rfl | rfl <;> simp
theorem outD_ren (f : Nat → Nat) (out : List Sh) (i : Nat) : D.renL f (outD out i) = outD out i := renL_free f _ (outD_bel 0 out i)
theorem outD_length (out : List Sh) (i : Nat) (h : i ≤ out.length) : (outD out i).length = out.length * 3 := by
  have h1 := rowsS_flat (out.take i)
  have h2 : (List.map List.length (List.replicate (out.length - i) zrow)).sum = (out.length - i) * 3 := by
    rw [List.map_replicate, List.sum_replicate_nat]; rfl
  simp only [outD, List.length_append, List.length_flatten]
  rw [h1, h2, List.length_take]
  omega
theorem outD_full (out : List Sh) : outD out out.length = (rowsS out).flatten := by simp [outD]
theorem outD_set (out : List Sh) (i : Nat) (h : i < out.length) : List.take (i * 3) (outD out i) ++ (rowS out[i] ++ List.drop (i * 3 + 3) (outD out i)) = outD out (i + 1) := by
  have h1 : ((rowsS (out.take i)).flatten).length = i * 3 := by
    rw [List.length_flatten, rowsS_flat, List.length_take]
    omega
  have e1 : List.take (i * 3) (outD out i) = (rowsS (out.take i)).flatten := by
    rw [outD, ← h1, List.take_left']
    rfl
  have e2 : (rowsS (out.take (i + 1))).flatten = (rowsS (out.take i)).flatten ++ rowS out[i] := by
    rw [List.take_succ_eq_append_getElem h, rowsS_map, rowsS_map, List.map_append, List.flatten_append]
    simp
  have e3 : List.drop (i * 3 + 3) (outD out i) = (List.replicate (out.length - (i + 1)) zrow).flatten := by
    rw [outD, List.drop_append, List.drop_eq_nil_of_le (by omega), h1, List.nil_append, show i * 3 + 3 - i * 3 = 3 by omega, show out.length - i = (out.length - (i + 1)) + 1 by omega, List.replicate_succ, List.flatten_cons]
    rfl
  rw [e1, e3, outD, e2, List.append_assoc]

noncomputable def cpT : List D → Option (Prop × D) := ctr (fun l : List Sh => [.agg [.lit (.int .i64 8), .lit (.slice none 0 0), .sq false 3 (rowsS l)]]) (fun l => sz (.mk 8 [] l) ≤ 1000000) (fun l => .agg (rowS (capS (.mk 8 [] l))))
theorem cpT_eq (l : List Sh) : cpT [.agg [.lit (.int .i64 8), .lit (.slice none 0 0), .sq false 3 (rowsS l)]] = some (sz (.mk 8 [] l) ≤ 1000000, .agg (rowS (capS (.mk 8 [] l)))) := ctr_enc (fun a b h => by simp at h; exact rowsS_inj _ _ h) l
theorem cpT_ok : ∀ xs p d, cpT xs = some (p, d) → p → FnO Try.prog 48 xs (.ret d) ∧ D.belL 0 xs = true ∧ D.bel 0 d = true :=
  ctr_ok fun l hl => ⟨capN_ok l hl, by simp, by simp⟩

set_option maxHeartbeats 4000000 in
set_option maxRecDepth 20000 in
theorem or_mid3 (I : Gh) (kn : List (ByteArray × Sh)) (ks : List ByteArray) (hl : ks.length ≤ 1000000) (hk : ∀ k ∈ ks, k ∈ kn.map (·.1)) (hsz : sz (.mk 8 [] (ks.map fun k => getK k kn)) ≤ 1000000) :
    W Try.prog none I orC3 (orQ (.agg (rowS (oneS (ks.map fun k => getK k kn))))) (orS3 kn ks) := by
  have ht := tb0_ok Try.prog
  obtain ⟨out, hout⟩ : ∃ out, out = ks.map fun k => getK k kn := ⟨_, rfl⟩
  have hol : out.length = ks.length := by rw [hout]; simp
  rw [← hout] at hsz ⊢
  show W Try.prog none I (.seq (.region 26 _ false) _) _ _
  refine w_seq (wx_ok ht fol _ _ _ (by kernel_rfl) ?_)
  simp -implicitDefEqProofs [orS3]
  refine ⟨⟨by omega, by omega⟩, ?_⟩
  refine w_seq (w_seq (wx_ok ht fol _ _ _ (by kernel_rfl) ?_))
  simp -implicitDefEqProofs
  have ez : zerosE { size := 3, bytes := 56, k := Aw.TK.st [(0, 3), (1, 22), (2, 23)], z := [Aw.Z.zn IntKind.i64, Aw.Z.zl, Aw.Z.zl] } ks.length = outD out 0 := by rw [zeros_sh]; simp [outD, rowsS, hol]
  refine w_block ?_
  refine w_loop (fun i : { i : Nat // i ≤ ks.length } => orF4 kn ks out i.1) (fun i => ks.length - i.1) ⟨0, Nat.zero_le _⟩ (le_of [0, 1, 2, 3] (by simp -implicitDefEqProofs [orF4, hol, keysD_ren, keysD_bel, esM_ren, esM_bel, outD_ren, outD_bel, ez, zrow])) fun ⟨i, hi⟩ => ?_
  have hw : IntKind.i64.wrap ((i : Int) + 1) = (i : Int) + 1 := wrap64 (by omega) (by omega)
  refine w_seq (wx_ok ht fol _ _ _ (by kernel_rfl) ?_)
  by_cases hil : i < ks.length
  · simp -implicitDefEqProofs [orF4, hil]
    refine w_seq (wx_ok ht fol _ _ _ (by kernel_rfl) ?_)
    simp -implicitDefEqProofs
    refine w_seq (w_block (w_seq (wx_ok ht fol _ _ _ (by kernel_rfl) ?_)))
    simp -implicitDefEqProofs [hil, keysD_get]
    refine ⟨by omega, ?_⟩
    have hio : i < out.length := by omega
    have hod := outD_length out i (by omega)
    obtain ⟨ti, hti⟩ := mapTI56 ks[i]
    obtain ⟨j, s, hf⟩ := fndM_mem (hk ks[i] (List.getElem_mem hil))
    have hs : s = out[i] := by
      simp only [hout, List.getElem_map]
      simp [getK, hf]
    have hG := findG_es ks[i] kn
    rw [hf] at hG
    refine w_seqOk (seqOk_step rfl rfl rfl ?_)
    simp -implicitDefEqProofs
    refine seqOk_step rfl rfl rfl ?_
    simp -implicitDefEqProofs
    refine seqOk_step rfl rfl rfl ?_
    simp -implicitDefEqProofs
    refine seqOk_step rfl rfl rfl ?_
    simp -implicitDefEqProofs
    refine seqOk_cons rfl rfl (opS_mget (kv := .string ks[i]) rfl (by simp) rfl rfl hti rfl hG rfl (by simp) ?_)
    simp -implicitDefEqProofs [pairOkD]
    refine seqOk_step rfl rfl rfl ?_
    simp -implicitDefEqProofs [hio]
    refine seqOk_step rfl rfl rfl ?_
    simp -implicitDefEqProofs [hio, hod]
    refine ⟨by omega, seqOk_nil (by simp) ?_⟩
    rw [hs, outD_set out i hio]
    simp -implicitDefEqProofs
    refine wx_ok ht fol _ _ _ (by kernel_rfl) ?_
    simp -implicitDefEqProofs [hw]
    exact ⟨i + 1, le_of [0, 1, 2, 3] (by simp -implicitDefEqProofs [orF4, keysD_ren, keysD_bel, esM_ren, esM_bel, outD_ren, outD_bel, zrow]), by omega, by omega⟩
  · have : i = ks.length := by omega
    subst this
    simp -implicitDefEqProofs [orF4]
    refine w_seq (wx_ok ht fol _ _ _ (by kernel_rfl) ?_)
    simp -implicitDefEqProofs [X.inBlock]
    rw [← hol, outD_full]
    by_cases h1 : out.length = 1
    · obtain ⟨x, hx⟩ : ∃ x, out = [x] := by
        match out, h1 with
        | [x], _ => exact ⟨x, rfl⟩
      have eo : oneS out = x := by rw [hx]; rfl
      rw [eo]
      refine w_seq (wx_ok ht fol _ _ _ (by kernel_rfl) ?_)
      simp -implicitDefEqProofs [orQ, X.noGoto, hx, rowsS]
      exact ⟨by decide, .same _ (by simp)⟩
    · have h1b : ((out.length : Int) == 1) = false := by simp; omega
      have eo : oneS out = capS (.mk 8 [] out) := by
        match out, h1 with
        | [], _ => rfl
        | _ :: _ :: _, _ => rfl
      rw [eo]
      refine w_seq (wx_ok ht fol _ _ _ (by kernel_rfl) ?_)
      simp -implicitDefEqProofs [h1b]
      refine w_frzO 11 3 (rowsS out) [(2, .pt 0 0), (11, .sq false 3 (rowsS out))] rfl rfl (by simp) (rowsS_rows out) (fun p hp => ?_) ?_
      · simp at hp
        rcases hp with rfl | rfl
        · exact .inl rfl
        · exact .inr ⟨rfl, rfl⟩
      simp -implicitDefEqProofs [ldel]
      have ht2 := tbC_ok cpT_ok (tb0_ok Try.prog)
      refine wx_ok ht2 fol _ _ _ (by kernel_rfl) ?_
      simp -implicitDefEqProofs [orQ, X.noGoto, cpT_eq, hsz]
      exact ⟨by decide, .same _ (by simp)⟩
end Go.Proofs.Ythlebppdhipanaa

/-
  One of some: the walk.
-/
namespace Go.Proofs.Ythlebppdhipanaa
open Go.Ev
open Go.Aw (tiOf fieldsOf sB)

def orF1 (l : List Sh) (i : Nat) : S := S.mk 99 [(2, .pt 0 0), (3, .ow 1 (flatS (l.take i)).length), (23, .sq false 3 (rowsS l)), (24, .lit (.int .i64 l.length)), (25, .lit (.int .i64 i))] [(0, .cells 25 none zrow), (1, .cells 25 (some 3) (rowsS (flatS (l.take i))).flatten)] 2 [] none []

/-- From the parts on. -/
theorem or_rest (fl : List Sh) (hne : fl ≠ []) (hz : szs fl ≤ 900000) (I : Gh) : W Try.prog none I orC2 (orQ (.agg (rowS (oneS (outS fl))))) (orS2 (putAll [] fl)) := by
  have hlen := putAll_length fl []
  have hfl := szs_len fl
  simp only [List.length_nil, Nat.zero_add] at hlen
  have hsz := out_szs fl
  have hpos := hlen.2.2 hne
  have hkl := (sortS_perm ((putAll [] fl).map (·.1))).length_eq
  rw [List.length_map] at hkl
  refine or_mid2 I _ _ (by omega) hpos (or_mid3 I _ _ (by omega) (fun k hk => (sortS_perm _).mem_iff.1 hk) ?_)
  have : sz (.mk 8 [] (outS fl)) = szs (outS fl) + 1 := sz_or _
  show sz (.mk 8 [] (outS fl)) ≤ 1000000
  omega

theorem flatS_app (a b : List Sh) : flatS (a ++ b) = flatS a ++ flatS b := by simp [flatS]
theorem flatS_one (x : Sh) : flatS [x] = flat1 x := by simp [flatS]
theorem rowsS_app (a b : List Sh) : rowsS (a ++ b) = rowsS a ++ rowsS b := by simp [rowsS_map]
theorem flat_good {l : List Sh} (hg : ∀ s ∈ l, goodS s = true) (hP : ∀ s ∈ l, limP s) : ∀ x ∈ flatS l, limP x ∧ rightS x = true := fun x hx => by
  obtain ⟨s, hs, h⟩ := flat_mem hx
  have hr := good_right (hg s hs)
  rcases h with ⟨_, hk⟩ | ⟨_, rfl⟩
  · exact ⟨limP_kid (hP s hs) hk, right_kids hr x hk⟩
  · exact ⟨hP _ hs, hr⟩
theorem flat_ne {l : List Sh} (hl : l ≠ []) (hg : ∀ s ∈ l, goodS s = true) : flatS l ≠ [] := by
  cases l with
  | nil => exact absurd rfl hl
  | cons x r =>
    intro h
    simp only [flatS, List.flatMap_cons, List.append_eq_nil_iff] at h
    have h1 := h.1
    unfold flat1 at h1
    split at h1
    · rename_i h8
      have := right_or (good_right (hg x (by simp))) h8
      rw [h1] at this
      simp at this
    · cases h1

set_option maxHeartbeats 4000000 in
set_option maxRecDepth 20000 in
theorem or_ok (l : List Sh) (hz : szs l ≤ 900000) (hP : ∀ s ∈ l, limP s) : FnO Try.prog 22 [.sq false 3 (rowsS l)] (.ret (.agg (rowS (orS l)))) := by
  have ht := tbC_ok agT_ok (tb0_ok Try.prog)
  have hlz := szs_len l
  have hl2 : l.length ≤ 1000000 := by omega
  refine fnO_of Try.func22 rfl (by kernel_rfl) (by simp [Try.ntmps22]) fun I => ?_
  refine w_seq (wx_ok ht fol _ _ _ (by kernel_rfl) ?_)
  simp -implicitDefEqProofs [Try.ntmps22]
  refine w_scope ?_
  by_cases h0 : l = []
  · subst h0
    refine w_seq (wx_ok ht fol _ _ _ (by kernel_rfl) ?_)
    simp -implicitDefEqProofs [X.noGoto]
    exact seals_agg (sealsL_cons (.same _ (by simp)) (sealsL_cons (.nil _ _) (sealsL_cons (.nil _ _) sealsL_nil)))
  have hb : ((l.length : Int) == 0) = false := by
    have : l.length ≠ 0 := fun q => h0 (List.eq_nil_of_length_eq_zero q)
    simp; exact h0
  have hle : l.isEmpty = false := by simpa using h0
  cases hg : l.all goodS with
  | false =>
    refine w_seq (wx_ok ht fol _ _ _ (by kernel_rfl) ?_)
    simp -implicitDefEqProofs [X.noGoto, agT_eq, hl2, hg, hb]
    refine ⟨hP, ?_⟩
    have e : orS l = .mk 0 [] [] := by rw [orS, hg, hle]; rfl
    rw [e]
    exact seals_agg (sealsL_cons (.same _ (by simp)) (sealsL_cons (.nil _ _) (sealsL_cons (.nil _ _) sealsL_nil)))
  | true =>
    have e : orS l = oneS (outS (flS l)) := by rw [orS, hg, hle]; rfl
    rw [e]
    have hall : ∀ s ∈ l, goodS s = true := by simpa using hg
    refine w_seq (wx_ok ht fol _ _ _ (by kernel_rfl) ?_)
    simp -implicitDefEqProofs [agT_eq, hl2, hg, hb]
    refine ⟨hP, ?_⟩
    refine w_seq (wx_ok ht fol _ _ _ (by kernel_rfl) ?_)
    simp -implicitDefEqProofs
    refine w_seq (wx_ok ht fol _ _ _ (by kernel_rfl) ?_)
    simp -implicitDefEqProofs
    refine w_seq (w_seq (wx_ok ht fol _ _ _ (by kernel_rfl) ?_))
    simp -implicitDefEqProofs
    refine wx_ok ht fol _ _ _ (by kernel_rfl) ?_
    simp -implicitDefEqProofs
    refine w_loop (fun i : { i : Nat // i ≤ l.length ∧ ∀ j (h : j < l.length), j < i → ¬ l[j].kind = 1 } => orF1 l i.1) (fun i => l.length - i.1) ⟨0, Nat.zero_le _, fun j _ h => by omega⟩ ((S.le_nil 3 25 3 rfl).trans (le_of [0, 1] (by simp [orF1, flatS, zrow, rowsS]))) fun ⟨i, hi, hnd⟩ => wx_ok ht fol _ _ _ (by kernel_rfl) ?_
    have hw : IntKind.i64.wrap ((i : Int) + 1) = (i : Int) + 1 := wrap64 (by omega) (by omega)
    have hrs := rowsS_flat (flatS (l.take i))
    by_cases hil : i < l.length
    · have hm : l[i] ∈ l := List.getElem_mem hil
      have hfl : (flatS (l.take i)).length + (flat1 l[i]).length ≤ 900000 := by
        have h1 := szs_len (flatS (l.take (i + 1)))
        have h2 := szs_flat (l.take (i + 1))
        have h3 : szs (l.take (i + 1)) ≤ szs l := by
          have := szs_app (l.take (i + 1)) (l.drop (i + 1))
          rw [List.take_append_drop] at this
          omega
        have h4 : (flatS (l.take (i + 1))).length = (flatS (l.take i)).length + (flat1 l[i]).length := by
          rw [List.take_succ_eq_append_getElem hil, flatS_app, List.length_append]; simp [flatS]
        omega
      by_cases h1 : l[i].kind = 1
      · have hfs : flS l = [l[i]] := by
          have : (l.find? fun s => decide (s.kind = 1)) = some l[i] := by
            rw [List.find?_eq_some_iff_getElem]
            exact ⟨by simpa using h1, i, hil, rfl, fun j hj => by simpa using hnd j (by omega) hj⟩
          rw [flS, this]
        rw [hfs]
        have hzi : sz l[i] ≤ szs l := szs_mem hm
        simp -implicitDefEqProofs [orF1, hil, h1]
        have hrest := or_mid1s I [l[i]] (.agg (rowS (oneS (outS [l[i]])))) (by simp) (fun s hs => by simp at hs; subst hs; exact ⟨hP _ hm, good_right (hall _ hm)⟩) (or_rest [l[i]] (by simp) (by rw [szs_cons, szs_nil]; omega) I)
        refine w_weaken (le_of [0, 3] ?_) hrest
        simp -implicitDefEqProofs [zrow, rowsS]
      · have h1b : (l[i].kind == 1) = false := by simpa using h1
        have hnd2 : ∀ j (h : j < l.length), j < i + 1 → ¬ l[j].kind = 1 := fun j hj hlt => by
          by_cases h9 : j = i
          · subst h9; exact h1
          · exact hnd j hj (by omega)
        by_cases h8 : l[i].kind = 8
        · have e1 : flat1 l[i] = l[i].kids := by unfold flat1; rw [if_pos h8]
          have e2 : flatS (l.take (i + 1)) = flatS (l.take i) ++ l[i].kids := by
            rw [List.take_succ_eq_append_getElem hil, flatS_app, flatS_one, e1]
          rw [e1] at hfl
          simp -implicitDefEqProofs [orF1, hil, h1b, h8, hw]
          refine ⟨⟨rowsS_rows _, by omega, by omega, by omega⟩, i + 1, le_of [0, 3] ?_, ⟨by omega, hnd2⟩, by omega⟩
          simp -implicitDefEqProofs [e2, rowsF_bel, rowsF_ren, rowsS_app, rowsS, zrow]
        · have h8b : (l[i].kind == 8) = false := by simpa using h8
          have e1 : flat1 l[i] = [l[i]] := by unfold flat1; rw [if_neg h8]
          have e2 : flatS (l.take (i + 1)) = flatS (l.take i) ++ [l[i]] := by
            rw [List.take_succ_eq_append_getElem hil, flatS_app, flatS_one, e1]
          rw [e1] at hfl
          simp at hfl
          simp -implicitDefEqProofs [orF1, hil, h1b, h8b, hw]
          refine ⟨⟨by omega, by omega, by omega⟩, i + 1, le_of [0, 4] ?_, ⟨by omega, hnd2⟩, by omega⟩
          simp -implicitDefEqProofs [e2, rowsF_bel, rowsF_ren, rowsS_app, rowsS, zrow]
    · have : i = l.length := by omega
      subst this
      have hfs : flS l = flatS l := by
        have : (l.find? fun s => decide (s.kind = 1)) = none := by
          rw [List.find?_eq_none]
          intro x hx
          obtain ⟨j, hj, rfl⟩ := List.mem_iff_getElem.1 hx
          simpa using hnd j hj hj
        rw [flS, this]
      rw [hfs]
      have hfz := szs_flat l
      have hfn := szs_len (flatS l)
      simp -implicitDefEqProofs [orF1]
      have hrest := or_mid1 I (flatS l) (.agg (rowS (oneS (outS (flatS l))))) (by omega) (flat_good hall hP) (or_rest (flatS l) (flat_ne h0 hall) (by omega) I)
      refine w_weaken (le_of [0, 1] ?_) hrest
      simp -implicitDefEqProofs [zrow, rowsF_bel, rowsF_ren]
end Go.Proofs.Ythlebppdhipanaa
