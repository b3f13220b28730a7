/-
  Regions that draw their order: what is reckoned.
  Operations are light (they leave memory as it is, and their slot is looked at only by operations behind them) or big (all others); the big ones stand one behind the other. At the stage j (j big ones are done)
  the canonical slots hold what every light operation tells that may be done by then; each light one that may still be open tells the same there.
-/
import Derived.Test.YtgpmcnakeeahbabGreatEvZ
namespace Go.Ev
open Go.Aw (tiOf TI)

def isReader : Op → Bool
  | .move _ => true
  | .assign _ => true
  | .pick _ _ _ => true
  | .build _ _ => true
  | .load _ _ => true
  | .nilCheck _ => true
  | .binOp _ _ _ _ _ => true
  | .unOp _ _ _ => true
  | .convert _ _ _ => true
  | .makeInterface _ _ => true
  | .makeFunc _ _ _ => true
  | .slice _ _ _ _ _ => true
  | .fieldAddr _ _ _ => true
  | .field _ _ _ => true
  | .indexAddr _ _ _ => true
  | .index _ _ _ => true
  | .extract _ _ => true
  | .lookup _ _ _ _ => true
  | .call c => (match c.callee with
    | .builtin .len => true
    | .builtin .cap => true
    | .builtin .max => true
    | .builtin .min => true
    | .builtin .unsafeSliceData => true
    | _ => false)
  | _ => false

theorem reader_same {P : Program} {h h' : H} {f : Operand → D} {op : Op} {d : D} (hr : isReader op = true) (he : opE P h f op = some (d, h')) : h' = h := by
  cases op <;> simp only [isReader, Bool.false_eq_true] at hr <;> simp only [opE] at he
  case move => cases he; rfl
  case assign => cases he; rfl
  case pick =>
    split at he
    · cases he; rfl
    · cases he
  case build => exact (map_pair he).2
  case load =>
    split at he
    · exact (map_pair he).2
    · cases he
  case nilCheck => exact (map_pair he).2
  case binOp =>
    split at he
    · cases he; rfl
    · split at he
      · cases he; rfl
      · split at he
        · cases he; rfl
        · exact (map_pair he).2
  case lookup => exact (map_pair he).2
  case unOp => exact (map_pair he).2
  case convert =>
    split at he
    · cases he; rfl
    · exact (map_pair he).2
  case makeInterface =>
    split at he
    · rw [cond_eq_ite] at he
      split at he
      · cases he
      · cases he; rfl
    · cases he
  case makeFunc => cases he; rfl
  case slice => exact (map_pair he).2
  case fieldAddr => exact (map_pair he).2
  case field => exact (map_pair he).2
  case indexAddr => exact (map_pair he).2
  case index => exact (map_pair he).2
  case extract =>
    split at he
    · exact (map_pair he).2
    · cases he
  case call c =>
    split at he
    · rename_i b hb
      rw [hb] at hr
      unfold builtinE at he
      split at he
      · exact (map_pair he).2
      · exact (map_pair he).2
      · simp at hr
      · simp at hr
      · exact (map_pair he).2
      · exact (map_pair he).2
      · exact (map_pair he).2
      · simp at hr
      · simp at hr
      · cases he
    · cases he

/-- A new variable: its name is set aside ahead of the region; so it may be made whenever it likes. -/
def isAlloc (o : Oper) : Bool := match o.op, o.guard with
  | .alloc _, none => true
  | .makeMap _ none, none => true
  | .makeSlice _ _ _, none => true
  | _, _ => false

/-! ### What hangs on what -/
/-- Of each operation: the set of those that are done ahead of it. -/
def ancsGo : List Oper → List Nat → Option (List Nat)
  | [], acc => some acc
  | o :: r, acc => bif (o.after.toList.all fun e => !Region.binds .any e || Nat.blt e.on acc.length) then
      ancsGo r (acc ++ [o.after.toList.foldl (fun m e => bif Region.binds .any e then m ||| ((1 <<< e.on) ||| acc.getD e.on 0) else m) 0]) else none

/-- The slots that an operation looks at. -/
def looks (o : Oper) (gd : Nat → Option Tmp) : List Tmp :=
  (o.op.operands.toList.filterMap fun | .tmp t => some t | _ => none) ++ (match o.guard with | some (j, _) => (match gd j with | some t => [t] | none => []) | none => [])

structure Row where
  i : Nat
  o : Oper
  big : Bool
  anc : Nat

/-- The rows of a region: each operation, whether it is big, what is done ahead of it. -/
def rowsOf (ops : List Oper) (as : List Nat) (rd : List Tmp) : Nat → List Row
  | i => match ops, as with
    | o :: r, a :: s => { i := i, o := o, big := !isAlloc o && (!isReader o.op || (match o.op with | .assign _ => (match o.dst with | some t => rd.contains t | none => false) | _ => false)), anc := a } :: rowsOf r s rd (i + 1)
    | _, _ => []

def bit (i : Nat) : Nat := 1 <<< i

/-- All that is asked of a region once and for all. -/
def chainOk : Nat → List Row → Bool
  | _, [] => true
  | m, r :: l => bif r.big then Nat.beq (m &&& r.anc) m && chainOk (m ||| bit r.i) l else chainOk m l

def looksOk (gd : Nat → Option Tmp) (rows : List Row) : Bool :=
  rows.all fun r => (looks r.o gd).all fun t => rows.all fun k => k.big || (match k.o.dst with | some u => !Nat.beq t u || Nat.testBit r.anc k.i | none => true)

def dstsOk (rows : List Row) : Bool :=
  rows.all fun r => r.big || (match r.o.dst with
    | some t => rows.all fun k => Nat.beq k.i r.i || (match k.o.dst with | some u => !Nat.beq t u | none => true)
    | none => true)

def bigMask (rows : List Row) : Nat := rows.foldl (fun m r => bif r.big then m ||| bit r.i else m) 0

def allocV (P : Program) (tm : T D) (h : H) (l : Nat) : Op → Option D
  | .alloc t => (match tiOf P t with
    | some ti => (match h.hp.get l with
      | some (.cells t' none ds) => bif Nat.beq t t' && lEqb ds (ti.z.map zD) then some (.pt l 0) else none
      | _ => none)
    | none => none)
  | .makeMap _ none => (match h.hp.get l with
    | some (.map es) => bif es.isEmpty then some (.mp l) else none
    | _ => none)
  | .makeSlice t x y => (match tiOf P t with
    | some { k := .sl e, .. } => (match tiOf P e, valT tm x, valT tm y with
      | some ti, .lit (.int _ (.ofNat n)), .lit (.int _ (.ofNat c)) => (match h.hp.get l with
        | some (.cells t' none ds) => bif Nat.blt 0 ti.size && (Nat.beq n c && (Nat.ble (ti.bytes * c) 281474976710656 && (Nat.ble c 9223372036854775807 && (Nat.beq e t' && lEqb ds (zerosE ti n))))) then some (.sl l 0 n (some n)) else none
        | _ => none)
      | _, _, _ => none)
    | _ => none)
  | _ => none

/-- The names that are set aside. -/
def resv (P : Program) (b0 : Nat) (pre : T D) : List Row → T Blk → T Blk
  | [], hp => hp
  | r :: l, hp => resv P b0 pre l (bif isAlloc r.o then (match r.o.op with
    | .alloc t => (match tiOf P t with
      | some ti => hp.set (b0 + r.i) (.cells t none (ti.z.map zD))
      | none => hp)
    | .makeMap _ none => hp.set (b0 + r.i) (.map [])
    | .makeSlice t x _ => (match tiOf P t with
      | some { k := .sl e, .. } => (match tiOf P e, valT pre x with
        | some ti, .lit (.int _ (.ofNat n)) => bif Nat.ble n 65536 then hp.set (b0 + r.i) (.cells e none (zerosE ti n)) else hp
        | _, _ => hp)
      | _ => hp)
    | _ => hp) else hp)

def lightE (P : Program) (b0 : Nat) (gd : Nat → Option Tmp) (tm : T D) (h : H) (r : Row) : Option D :=
  match guardE gd tm r.o.guard with
  | some true => bif isAlloc r.o then allocV P tm h (b0 + r.i) r.o.op else (opE P h (valT tm) r.o.op).map (·.1)
  | some false => some .un
  | none => none

/-- What the slots hold ahead of all new things, as far as it can be told. -/
def preE (P : Program) (h : H) (gd : Nat → Option Tmp) : List Row → T D → T D
  | [], tm => tm
  | r :: l, tm => preE P h gd l (bif !r.big && (Nat.beq r.anc r.anc && !isAlloc r.o) then (match guardE gd tm r.o.guard with
    | some true => (match opE P h (valT tm) r.o.op with
      | some (d, _) => (match r.o.dst with | some t => tm.set t d | none => tm)
      | none => tm)
    | _ => tm) else tm)

/-- May it be done when just these big ones are? -/
def elig (all bm : Nat) (r : Row) : Bool := Nat.beq ((r.anc &&& all) ||| bm) bm

def putT (tm : T D) : Option Tmp → D → T D
  | none, _ => tm
  | some t, d => tm.set t d

def oldE (all : Nat) : Option Nat → Row → Bool
  | some o, r => elig all o r
  | none, _ => false

/-- What may be done now, and might not before. -/
def passE (P : Program) (b0 : Nat) (gd : Nat → Option Tmp) (all : Nat) (old : Option Nat) (bm : Nat) (h : H) : List Row → T D → Option (T D)
  | [], tm => some tm
  | r :: l, tm => bif !r.big && (elig all bm r && !oldE all old r) then (match lightE P b0 gd tm h r with
      | some d => passE P b0 gd all old bm h l (putT tm r.o.dst d)
      | none => none) else passE P b0 gd all old bm h l tm

/-- All that may still be open tell what the slots hold. -/
def holdE (P : Program) (b0 : Nat) (gd : Nat → Option Tmp) (all bm must : Nat) (tm : T D) (h : H) (rows : List Row) : Bool :=
  rows.all fun r => r.big || (!elig all bm r || (Nat.testBit must r.i || (match lightE P b0 gd tm h r with
    | some d => (match r.o.dst with
      | some t => (match tm.get t with | some e => dEqb d e | none => false)
      | none => true)
    | none => false)))

/-- One big operation. -/
def bigE (P : Program) (cf : CF) (ye : YE) (gd : Nat → Option Tmp) (tm : T D) (h : H) (b : Row) : Option (D × H) :=
  match guardE gd tm b.o.guard with
  | some true => evalOp P cf ye (valT tm) h b.o.op
  | some false => some (.un, h)
  | none => none

def storeK (ti : TI) (o : Nat) (x : D) : Blk → Option Blk
  | .cells ty op ds => bif okX x && (Nat.beq (cellsD x).length ti.size && Nat.ble (o + ti.size) ds.length) then some (.cells ty op (ds.take o ++ cellsD x ++ ds.drop (o + ti.size))) else none
  | _ => none

/-- What a store writes, and where. -/
def storeOf (P : Program) (tm : T D) (h : H) (o : Oper) : Option (Nat × Blk) :=
  match o.guard, o.dst, o.op with
  | none, none, .store t p v => (match tiOf P t, valT tm p with
    | some ti, .pt l off => (match h.hp.get l with
      | some k0 => (storeK ti off (valT tm v) k0).map fun k => (l, k)
      | none => none)
    | _, _ => none)
  | _, _, _ => none

/-- Two stores that stand last, in whatever order, into parts of memory that are not the same. -/
def tailE (P : Program) (b0 : Nat) (gd : Nat → Option Tmp) (rows : List Row) (all : Nat) (x y : Row) (bm must : Nat) (tm : T D) (h : H) : Option (T D × H) :=
  match storeOf P tm h x.o, storeOf P tm h y.o with
  | some (l1, k1), some (l2, k2) => bif !Nat.beq l1 l2 && (holdE P b0 gd all (bm ||| bit x.i) (must ||| x.anc) tm { h with hp := h.hp.set l1 k1 } rows && (holdE P b0 gd all (bm ||| bit y.i) (must ||| y.anc) tm { h with hp := h.hp.set l2 k2 } rows &&
      holdE P b0 gd all (bm ||| bit x.i ||| bit y.i) (must ||| x.anc ||| y.anc) tm { h with hp := (h.hp.set l1 k1).set l2 k2 } rows)) then some (tm, { h with hp := (h.hp.set l1 k1).set l2 k2 }) else none
  | _, _ => none

def stageE (P : Program) (cf : CF) (ye : YE) (b0 : Nat) (gd : Nat → Option Tmp) (rows : List Row) (all : Nat) : List Row → Nat → Nat → T D → H → Option (T D × H)
  | [], _, _, tm, h => some (tm, h)
  | b :: l, bm, must, tm, h => bif l.all (fun q => Nat.testBit q.anc b.i) then (match bigE P cf ye gd tm h b with
    | some (d, h') => (match passE P b0 gd all (some bm) (bm ||| bit b.i) h' rows (putT tm b.o.dst d) with
      | some tm' => bif holdE P b0 gd all (bm ||| bit b.i) (must ||| b.anc) tm' h' rows then stageE P cf ye b0 gd rows all l (bm ||| bit b.i) (must ||| b.anc) tm' h' else none
      | none => none)
    | none => none) else (match l with
    | [y] => tailE P b0 gd rows all b y bm must tm h
    | _ => none)

def drawE (P : Program) (cf : CF) (ye : YE) (ops : Array Oper) (s : St) : Option St :=
  let gd : Nat → Option Tmp := fun j => (ops[j]?).bind (·.dst)
  match ancsGo ops.toList [] with
  | some as =>
    let rows := rowsOf ops.toList as (ops.toList.flatMap fun o => looks o gd) 0
    let all := bigMask rows
    let b0 := s.h.nx
    let h0 : H := { hp := bif rows.any (fun r => isAlloc r.o) then resv P b0 (preE P s.h gd rows s.tm) rows s.h.hp else s.h.hp, nx := b0 + (bif rows.any (fun r => isAlloc r.o) then ops.size else 0) }
    bif (looksOk gd rows && (dstsOk rows && (ops.toList.all (fun o => s.room o.dst) && P.follows .mixedOrders))) then
      (match passE P b0 gd all none 0 h0 rows s.tm with
      | some tm => bif holdE P b0 gd all 0 0 tm h0 rows then (match stageE P cf ye b0 gd rows all (rows.filter (·.big)) 0 0 tm h0 with
          | some (tm', h') => some { s with tm := tm', h := h' }
          | none => none) else none
      | none => none) else none
  | none => none
end Go.Ev
