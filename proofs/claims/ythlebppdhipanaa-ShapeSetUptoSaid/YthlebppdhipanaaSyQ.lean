/-
  States put in their form; calls that may call back.
-/
import Derived.Test.YthlebppdhipanaaSyP
set_option linter.all false
namespace Go.Ev
open Go.Aw (WF enters tiOf)

def allP {α : Type} (p : Nat → α → Prop) : List (Nat × α) → Prop
  | [] => True
  | (k, x) :: r => p k x ∧ allP p r

theorem allP_lk {α : Type} {p : Nat → α → Prop} : ∀ (l : List (Nat × α)), allP p l → ∀ t d, lk l t = some d → p t d
  | [], _, t, d, h => by simp [lk] at h
  | (k, x) :: r, ha, t, d, h => by
    simp only [lk] at h
    split at h
    · rename_i hk; subst hk; cases h; exact ha.1
    · exact allP_lk r ha.2 t d h

/-- Names turned by a list: the i-th is what it was. -/
def nmF (fl : List Nat) (l : Nat) : Nat := fl.getD l 0

/-- What is asked of a state that is to stand for another one. -/
def leC (fl : List Nat) (s s' : S) : Prop :=
  s'.nx = fl.length ∧ fl.Nodup ∧ s'.n = s.n ∧ s.df = s'.df.map (nmF fl) ∧ (∀ l, l ∈ s'.df → l < s'.nx) ∧ allP (fun t d => lk s.tm t = some (d.ren (nmF fl)) ∧ D.bel s'.nx d = true) s'.tm ∧
    allP (fun l k => lk s.hp (nmF fl l) = some (k.ren (nmF fl)) ∧ Blk.bel s'.nx k = true ∧ l < s'.nx) s'.hp ∧ s'.g = s.g ∧ s.ex = D.renL (nmF fl) s'.ex ∧ D.belL s'.nx s'.ex = true

theorem nodup_get : ∀ (fl : List Nat), fl.Nodup → ∀ i j, i < fl.length → j < fl.length → fl.getD i 0 = fl.getD j 0 → i = j := by
  intro fl h i j hi hj he
  simp only [List.getD_eq_getElem?_getD, List.getElem?_eq_getElem hi, List.getElem?_eq_getElem hj, Option.getD_some] at he
  have hp := List.pairwise_iff_getElem.1 h
  rcases Nat.lt_trichotomy i j with hij | hij | hij
  · exact absurd he (hp i j hi hj hij)
  · exact hij
  · exact absurd he.symm (hp j i hj hi hij)

theorem le_of {rl : Option Nat} {s s' : S} (fl : List Nat) (h : leC fl s s') (hrl : ∀ l, rl = some l → l < s'.nx ∧ nmF fl l = l := by intro l h; cases h) : s.le rl s' := by
  obtain ⟨h1, h2, h3, h4, h5, h6, h7, h8, h9, h10⟩ := h
  refine S.le_ren (nmF fl) (fun i j hi hj he => nodup_get fl h2 i j (h1 ▸ hi) (h1 ▸ hj) he) h3 h4 h5 hrl (fun t d e => allP_lk _ h6 t d e) (fun l k e => allP_lk _ h7 l k e) h8 ⟨by rw [h9, renL_length], fun i d e => ⟨by rw [h9, renL_get, e]; rfl, belL_get _ _ i d h10 e⟩⟩

/-- Lists of what does not change any more. -/
def SealsL (hp : List (Nat × Blk)) (l l' : List D) : Prop := l'.length = l.length ∧ ∀ (i : Nat) d d', l[i]? = some d → l'[i]? = some d' → Seals hp d d'

theorem sealsL_same {hp : List (Nat × Blk)} {l : List D} (h : D.belL 0 l = true) : SealsL hp l l := ⟨rfl, fun i d d' h1 h2 => by
  rw [h1] at h2
  cases h2
  exact .same d (belL_get 0 l i d h h1)⟩

theorem sealsL_nil {hp : List (Nat × Blk)} : SealsL hp [] [] := ⟨rfl, fun i d d' h => by simp at h⟩

theorem sealsL_cons {hp : List (Nat × Blk)} {d d' : D} {l l' : List D} (h : Seals hp d d') (hl : SealsL hp l l') : SealsL hp (d :: l) (d' :: l') := ⟨by simp [hl.1], fun i x x' h1 h2 => by
  cases i with
  | zero => simp at h1 h2; subst h1 h2; exact h
  | succ i => exact hl.2 i x x' (by simpa using h1) (by simpa using h2)⟩

theorem seals_fn {hp : List (Nat × Blk)} {f : Fn} {a a' b b' : List D} (h1 : SealsL hp a a') (h2 : SealsL hp b b') : Seals hp (.fn f a b) (.fn f a' b') := .fn f a a' b b' h1.1 h2.1 h1.2 h2.2
theorem seals_agg {hp : List (Nat × Blk)} {a a' : List D} (h1 : SealsL hp a a') : Seals hp (.agg a) (.agg a') := .agg a a' h1.1 h1.2
theorem seals_tup {hp : List (Nat × Blk)} {a a' : List D} (h1 : SealsL hp a a') : Seals hp (.tup a) (.tup a') := .tup a a' h1.1 h1.2
theorem seals_pt {hp : List (Nat × Blk)} {l o : Nat} {ty : TypeId} {op : Option Nat} {ds ds' : List D} (hl : lk hp l = some (.cells ty op ds)) (h : SealsL hp ds ds') : Seals hp (.pt l o) (.ps none ds' o) := .pt l o ty op ds ds' hl h.1 h.2

/-- An own slice of rows that lead to nothing. -/
theorem seals_ow {hp : List (Nat × Blk)} {l n : Nat} {ty : TypeId} {op : Option Nat} {sz : Nat} {rows : List (List D)} (hl : lk hp l = some (.cells ty op rows.flatten)) (hn : rows.length = n) (hz : ∀ r, r ∈ rows → r.length = sz) (hb : D.belLL 0 rows = true) : Seals hp (.ow l n) (.sq false sz rows) :=
  .ow l n ty op rows.flatten sz rows (fun i j => ((rows[i]?.getD [])[j]?).getD .un) hl hn hz (fun i j r x h1 h2 => by
    simp only [h1, h2, Option.getD_some]
    exact flat_at rows hz i j r x h1 h2) (fun i j r x h1 h2 => by
    simp only [h1, h2, Option.getD_some]
    exact .same x (belLL_row hb h1 h2))

theorem seals_sl {hp : List (Nat × Blk)} {l n : Nat} {cap : Option Nat} {ty : TypeId} {op : Option Nat} {sz : Nat} {rows : List (List D)} (hl : lk hp l = some (.cells ty op rows.flatten)) (hn : rows.length = n) (hz : ∀ r, r ∈ rows → r.length = sz) (hb : D.belLL 0 rows = true) : Seals hp (.sl l 0 n cap) (.sq false sz rows) :=
  .sl l 0 n cap ty op rows.flatten sz rows (fun i j => ((rows[i]?.getD [])[j]?).getD .un) hl hn hz (fun i j r x h1 h2 => by
    simp only [h1, h2, Option.getD_some, Nat.zero_add]
    exact flat_at rows hz i j r x h1 h2) (fun i j r x h1 h2 => by
    simp only [h1, h2, Option.getD_some]
    exact .same x (belLL_row hb h1 h2))

mutual
theorem ren_free (f : Nat → Nat) : ∀ (d : D), D.bel 0 d = true → d.ren f = d
  | .lit _, _ => rfl
  | .agg l, h => by simp only [D.ren, renL_free f l (by simpa [D.bel] using h)]
  | .pt _ _, h => by simp [D.bel] at h
  | .sl _ _ _ _, h => by simp [D.bel] at h
  | .fn g a b, h => by
    simp only [D.bel, Bool.and_eq_true] at h
    simp only [D.ren, renL_free f a h.1, renL_free f b h.2]
  | .yl _, h => by simp [D.bel] at h
  | .ifc t d, h => by simp only [D.ren, ren_free f d (by simpa [D.bel] using h)]
  | .tup l, h => by simp only [D.ren, renL_free f l (by simpa [D.bel] using h)]
  | .em, _ => rfl
  | .un, _ => rfl
  | .one, _ => rfl
  | .any, _ => rfl
  | .sq _ _ _, _ => rfl
  | .ps _ _ _, _ => rfl
  | .con _, _ => rfl
  | .gd c d, h => by simp only [D.ren, ren_free f d (by simpa [D.bel] using h)]
  | .ow _ _, h => by simp [D.bel] at h
  | .mp _, h => by simp [D.bel] at h
theorem renL_free (f : Nat → Nat) : ∀ (l : List D), D.belL 0 l = true → D.renL f l = l
  | [], _ => rfl
  | d :: r, h => by
    simp only [D.belL, Bool.and_eq_true] at h
    simp only [D.renL, ren_free f d h.1, renL_free f r h.2]
end

mutual
theorem bel_up (n : Nat) : ∀ (d : D), D.bel 0 d = true → D.bel n d = true
  | .lit _, _ => rfl
  | .agg l, h => by simp only [D.bel] at h ⊢; exact belL_up n l h
  | .pt _ _, h => by simp [D.bel] at h
  | .sl _ _ _ _, h => by simp [D.bel] at h
  | .fn g a b, h => by
    simp only [D.bel, Bool.and_eq_true] at h ⊢
    exact ⟨belL_up n a h.1, belL_up n b h.2⟩
  | .yl _, h => by simp [D.bel] at h
  | .ifc t d, h => by simp only [D.bel] at h ⊢; exact bel_up n d h
  | .tup l, h => by simp only [D.bel] at h ⊢; exact belL_up n l h
  | .em, _ => rfl
  | .un, _ => rfl
  | .one, _ => rfl
  | .any, _ => rfl
  | .sq _ _ _, h => h
  | .ps _ _ _, h => h
  | .con _, _ => rfl
  | .gd c d, h => by simp only [D.bel] at h ⊢; exact bel_up n d h
  | .ow _ _, h => by simp [D.bel] at h
  | .mp _, h => by simp [D.bel] at h
theorem belL_up (n : Nat) : ∀ (l : List D), D.belL 0 l = true → D.belL n l = true
  | [], _ => rfl
  | d :: r, h => by
    simp only [D.belL, Bool.and_eq_true] at h ⊢
    exact ⟨bel_up n d h.1, belL_up n r h.2⟩
end

theorem belL_append (n : Nat) : ∀ (a b : List D), D.belL n (a ++ b) = (D.belL n a && D.belL n b)
  | [], b => by simp [D.belL]
  | x :: a, b => by simp [D.belL, belL_append n a b, Bool.and_assoc]
theorem renL_append (f : Nat → Nat) : ∀ (a b : List D), D.renL f (a ++ b) = D.renL f a ++ D.renL f b
  | [], b => by simp [D.renL]
  | x :: a, b => by simp [D.renL, renL_append f a b]
attribute [simp] belL_append renL_append

/-- A yield is called, where it is wanted. -/
theorem callS_yield {P : Program} {rl : Option Nat} {I : Gh} {e : Bool} {y : Value} {xs : List (List D)} {args : List D} {so : Prop} {g : Option (Nat × Bool)} {dst : Option Tmp} {s : S} {K : S → Prop} {Kp : D → S → Prop} {k : Nat} (hso : e = true → so) (hy : e = true → YieldOk P I y xs) (hg : e = true → s.g = some k)
    (hx : e = true → xs[k]? = some args) (ha : e = true → D.belL 0 args = true) (hK : e = true → ∀ t, ({ s with g := if t then some (k + 1) else none } : S).room dst ∧ K (({ s with g := if t then some (k + 1) else none } : S).put dst (.lit (.bool t))))
    (hn : e = false → s.room dst ∧ K (s.put dst .un)) : CallS P rl I e (.con y) args so g dst s K Kp :=
  .inr ⟨fun he => ⟨hso he, callCon_yield (hy he) (hg he) (hx he) (ha he) (hK he)⟩, hn⟩

/-- A function that may call back is called, where it is wanted. -/
theorem callS_fnG {P : Program} {rl : Option Nat} {I : Gh} {e : Bool} {gg : FuncId} {first caps args args' : List D} {so : Prop} {g : Option (Nat × Bool)} {dst : Option Tmp} {s : S} {K : S → Prop} {Kp : D → S → Prop} {KG : D → Option Nat → Prop} (hso : e = true → so) (h : e = true → FnG P I gg args' s.g KG) (ha : D.belL 0 args' = true)
    (hst : ∀ M w a zs, SRep zs M s w a → ∀ vs, argsOk M (first ++ (args ++ caps)) vs → argsOk M args' vs) (hK : e = true → ∀ d g', D.bel 0 d = true → KG d g' → ({ s with g := g' } : S).room dst ∧ K (({ s with g := g' } : S).put dst d))
    (hn : e = false → s.room dst ∧ K (s.put dst .un)) : CallS P rl I e (.fn (.func gg) first caps) args so g dst s K Kp :=
  .inr ⟨fun he => ⟨hso he, callF_fnG (h he) ha hst (hK he)⟩, hn⟩

/-- Pointers to a block of which a slot knows what lies there. -/
theorem argsOk_cons {M : Mem} {d : D} {ds : List D} {vs : Array Value} (h : argsOk M (d :: ds) vs) : ∃ v us, vs = #[v] ++ us ∧ R M d v ∧ argsOk M ds us := by
  obtain ⟨h1, h2⟩ := h
  have h0 : 0 < vs.size := by rw [h1]; simp
  refine ⟨vs[0], vs.extract 1 vs.size, ?_, ?_, ?_, ?_⟩
  · apply Array.ext
    · simp; omega
    · intro i hi hj
      cases i with
      | zero => simp
      | succ i => simp [Array.getElem_append, Nat.add_comm]
  · have := h2 0 d rfl
    simpa [Array.getD, h0] using this
  · simp [h1]
  · intro i e hi
    have := h2 (i + 1) e (by simpa using hi)
    rwa [show (vs.extract 1 vs.size).getD i undef = vs.getD (i + 1) undef by
      simp only [Array.getD_eq_getD_getElem?, Array.getElem?_extract]
      have hlt : i < ds.length := (List.getElem?_eq_some_iff.1 hi).1
      rw [if_pos (by rw [h1]; simp; omega), Nat.add_comm]]

theorem argsOk_cons' {M : Mem} {d : D} {ds : List D} {v : Value} {us : Array Value} (h1 : R M d v) (h2 : argsOk M ds us) : argsOk M (d :: ds) (#[v] ++ us) :=
  argsOk_append (a := [d]) ⟨rfl, fun i e hi => by
    cases i with
    | zero => simp at hi; subst hi; exact h1
    | succ i => simp at hi⟩ h2

/-- Of an argument more is known. -/
theorem args_step {M : Mem} {d d' : D} {ds ds' : List D} {vs : Array Value} (h : argsOk M (d :: ds) vs) (hd : ∀ v, R M d v → R M d' v) (hs : ∀ us, argsOk M ds us → argsOk M ds' us) : argsOk M (d' :: ds') vs := by
  obtain ⟨v, us, rfl, h1, h2⟩ := argsOk_cons h
  exact argsOk_cons' (hd v h1) (hs us h2)

theorem con_ps {M : Mem} {b : Nat} {row : List D} {u : Value} (hu : R M (.ps (some b) row 0) u) {v : Value} (hv : R M (.con (.pointer (some ⟨b, 0, none⟩))) v) : R M (.ps (some b) row 0) v := by
  cases hv
  cases hu with
  | ps _ _ _ b' off c V hb hq h1 h2 =>
  obtain ⟨rfl, rfl⟩ := hq b rfl
  exact .ps _ _ _ b' 0 c V hb hq h1 h2

theorem wrap64 {x : Int} (h1 : -9223372036854775808 ≤ x) (h2 : x ≤ 9223372036854775807) : IntKind.i64.wrap x = x := by
  have e : IntKind.i64.wrap x = if x % 18446744073709551616 ≥ 9223372036854775808 then x % 18446744073709551616 - 18446744073709551616 else x % 18446744073709551616 := by
    simp [IntKind.wrap, show (2 : Int) ^ IntKind.i64.bits = 18446744073709551616 from rfl, show (2 : Int) ^ (IntKind.i64.bits - 1) = 9223372036854775808 from rfl, show IntKind.i64.signed = true from rfl]
  rw [e]
  split <;> omega

/-- What a slot knows of lengths. -/
theorem w_len {P : Program} {rl : Option Nat} {I : Gh} {Q : X → S → Prop} {s : S} {c : Code} (t : Nat) {f : Bool} {sz : Nat} {rows : List (List D)} (ht : lk s.tm t = some (.sq f sz rows)) (h : rows.length ≤ 9223372036854775807 → W P rl I c Q s) : W P rl I c Q s := by
  intro r M w a zs hrl hr hg
  refine h ?_ r M w a zs hrl hr hg
  have := hr.t t _ ht
  generalize a.tmps.getD t undef = v at this
  cases this with
  | sqn => simp
  | sq _ _ _ b off k c V hb hn hm hf hz h1 h2 => exact Nat.le_trans hn hm

@[simp] theorem blt_dec (a b : Nat) : Nat.blt a b = decide (a < b) := by
  cases h : Nat.blt a b with
  | true => rw [Nat.blt_eq] at h; simp [h]
  | false =>
    have : ¬ a < b := fun q => by rw [← Nat.blt_eq, h] at q; cases q
    simp [this]
@[simp] theorem ble_dec (a b : Nat) : Nat.ble a b = decide (a ≤ b) := by
  cases h : Nat.ble a b with
  | true => rw [Nat.ble_eq] at h; simp [h]
  | false =>
    have : ¬ a ≤ b := fun q => by rw [← Nat.ble_eq, h] at q; cases q
    simp [this]
@[simp] theorem beq_dec (a b : Nat) : Nat.beq a b = decide (a = b) := by
  cases h : Nat.beq a b with
  | true => have := Nat.eq_of_beq_eq_true h; simp [this]
  | false =>
    have : ¬ a = b := fun q => by rw [q, Nat.beq_refl] at h; cases h
    simp [this]

section
variable {l : Nat} {X : Nat → D}
@[simp] theorem sub_lit {v : Value} : D.sub l X (.lit v) = .lit v := rfl
@[simp] theorem sub_con {v : Value} : D.sub l X (.con v) = .con v := rfl
@[simp] theorem sub_ps {q : Option Nat} {r : List D} {o : Nat} : D.sub l X (.ps q r o) = .ps q r o := rfl
@[simp] theorem sub_sq {f : Bool} {sz : Nat} {r : List (List D)} : D.sub l X (.sq f sz r) = .sq f sz r := rfl
@[simp] theorem sub_un : D.sub l X .un = .un := rfl
@[simp] theorem sub_any : D.sub l X .any = .any := rfl
@[simp] theorem sub_one : D.sub l X .one = .one := rfl
@[simp] theorem sub_ow {m n : Nat} : D.sub l X (.ow m n) = .ow m n := rfl
@[simp] theorem sub_sl {m a b : Nat} {c : Option Nat} : D.sub l X (.sl m a b c) = .sl m a b c := rfl
@[simp] theorem sub_mp {m : Nat} : D.sub l X (.mp m) = .mp m := rfl
@[simp] theorem sub_yl {m : Nat} : D.sub l X (.yl m) = .yl m := rfl
@[simp] theorem sub_pt {m o : Nat} : D.sub l X (.pt m o) = if m = l then X o else .pt m o := rfl
@[simp] theorem sub_agg {r : List D} : D.sub l X (.agg r) = .agg (D.subL l X r) := rfl
@[simp] theorem sub_tup {r : List D} : D.sub l X (.tup r) = .tup (D.subL l X r) := rfl
@[simp] theorem sub_fn {f : Fn} {a b : List D} : D.sub l X (.fn f a b) = .fn f (D.subL l X a) (D.subL l X b) := rfl
@[simp] theorem sub_ifc {t : TypeId} {d : D} : D.sub l X (.ifc t d) = .ifc t (D.sub l X d) := rfl
@[simp] theorem sub_gd {c : Bool} {d : D} : D.sub l X (.gd c d) = .gd c (D.sub l X d) := rfl
@[simp] theorem subL_nil : D.subL l X [] = [] := rfl
@[simp] theorem subL_cons {d : D} {r : List D} : D.subL l X (d :: r) = D.sub l X d :: D.subL l X r := rfl
@[simp] theorem blksub_cells {a : TypeId} {b : Option Nat} {ds : List D} : Blk.sub l X (.cells a b ds) = .cells a b (D.subL l X ds) := rfl
@[simp] theorem blksub_dfr : Blk.sub l X .dfr = .dfr := rfl
@[simp] theorem mapV_nil {α β : Type} {f : α → β} : mapV f [] = [] := rfl
@[simp] theorem mapV_cons {α β : Type} {f : α → β} {k : Nat} {x : α} {r : List (Nat × α)} : mapV f ((k, x) :: r) = (k, f x) :: mapV f r := rfl
end

section
theorem rd_normal {s0 s1 s : S} {Q : X → S → Prop} : Rd s0 s1 Q .normal s = (okEx s0 s ∧ (s0.back s).le none s1) := rfl
theorem rd_exit {s0 s1 s : S} {Q : X → S → Prop} {i : Nat} : Rd s0 s1 Q (.exit i) s = (okEx s0 s ∧ Q (.exit i) (s0.back s)) := rfl
theorem rd_ret {s0 s1 s : S} {Q : X → S → Prop} : Rd s0 s1 Q .ret s = (okEx s0 s ∧ Q .ret (s0.back s)) := rfl
end
attribute [simp] rd_normal rd_exit rd_ret okEx.eq_def S.back.eq_def S.round.eq_def S.entered.eq_def saveL.eq_def setPs zipK isYl ylN keysOk
@[simp] theorem ba_size (a : Array UInt8) : (ByteArray.mk a).size = a.size := rfl
@[simp] theorem goInt_eq (n : Int) : goInt n = .int .i64 n := rfl
attribute [simp] Go.Aw.Z.val zerosE zerosL appendL.eq_def appendO.eq_def srcV.eq_def srcO.eq_def isSrc.eq_def
attribute [simp] frzRow.eq_def S.frz.eq_def
attribute [simp] fieldAddrE.eq_def fieldE.eq_def partE.eq_def lenE.eq_def buildE.eq_def fillD.eq_def placeE.eq_def zD.eq_def nilE.eq_def loadE.eq_def binE.eq_def eqE.eq_def
attribute [simp] leC allP nmF D.ren D.renL D.bel D.belL D.belLL Blk.ren Blk.bel
end Go.Ev
