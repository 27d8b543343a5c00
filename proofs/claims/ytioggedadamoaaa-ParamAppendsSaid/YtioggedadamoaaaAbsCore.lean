/- The abstract machine: an executable, deterministic reading of a loaded program. Nothing here is trusted: AbsSound proves that what it answers the model's machine answers. -/
import Derived.Calls
import Derived.Orders
import Derived.Below
import Derived.Laws.Cells
import Derived.Laws.IdiomCopy
set_option autoImplicit false
namespace Go.Abs
inductive AObj where
  | cells (cs : List Value) (ro opn : Bool) (esz : Nat)
  | map (es : List MapEntry) (clock : Nat)
  | dead
  | resv
  deriving Inhabited
inductive Tr where
  | nil
  | node (l : Tr) (o : AObj) (r : Tr)
  | hp (s : List AObj) (g : Nat → AObj)
def getO : List AObj → Nat → AObj
  | [], _ => .resv
  | o :: _, 0 => o
  | _ :: l, n + 1 => getO l n
def setO : List AObj → Nat → AObj → List AObj
  | [], 0, x => [x]
  | [], n + 1, x => .resv :: setO [] n x
  | _ :: l, 0, x => x :: l
  | o :: l, n + 1, x => o :: setO l n x
def Tr.get : Tr → Nat → AObj
  | .nil, _ => .dead
  | .node l o r, i => bif i.beq 0 then o else bif (i % 2).beq 1 then l.get (i / 2) else r.get (i / 2 - 1)
  | .hp s g, i => bif Nat.blt i 64 then getO s i else g (i - 64)
def Tr.put : Nat → Tr → Nat → AObj → Tr
  | 0, t, _, _ => t
  | f + 1, .nil, i, x => bif i.beq 0 then .node .nil x .nil else bif (i % 2).beq 1 then .node (Tr.put f .nil (i / 2) x) .dead .nil else .node .nil .dead (Tr.put f .nil (i / 2 - 1) x)
  | f + 1, .node l o r, i, x => bif i.beq 0 then .node l x r else bif (i % 2).beq 1 then .node (Tr.put f l (i / 2) x) o r else .node l o (Tr.put f r (i / 2 - 1) x)
  | _ + 1, .hp s g, i, x => bif Nat.blt i 64 then .hp (setO s i x) g else .hp s (fun j => bif Nat.beq j (i - 64) then x else g j)
structure AW where
  size : Nat
  tr : Tr
  nx : Option Nat
  win : Nat
def AW.get (A : AW) (b : Nat) : AObj := A.tr.get b
def AW.set (A : AW) (b : Nat) (x : AObj) : AW := { A with tr := A.tr.put (b + 1) b x }
def AW.nid (A : AW) : Nat := match A.nx with | none => A.size | some r => r
def AW.push (A : AW) (x : AObj) : AW := match A.nx with
  | none => { size := A.size + 1, tr := A.tr.put (A.size + 1) A.size x, nx := none, win := A.win }
  | some r => { size := A.size, tr := A.tr.put (r + 1) r x, nx := bif Nat.blt (r + 1) A.win then some (r + 1) else none, win := A.win }
def AW.empty : AW := ⟨0, .nil, none, 0⟩
def AW.keep (A : AW) : Nat → AW
  | 0 => A
  | k + 1 => ({ size := A.size + 1, tr := A.tr.put (A.size + 1) A.size .resv, nx := none, win := 0 } : AW).keep k
def AW.at (A : AW) (r : Option Nat) : AW := { A with nx := r, win := 0 }
def AObj.isResv : AObj → Bool
  | .resv => true
  | _ => false
mutual
def ground : Value → Bool
  | .bool _ | .int _ _ | .float _ _ | .complex _ _ _ | .string _ | .nilFunc | .nilIface => true
  | .pointer a => a.isNone
  | .slice a _ _ => a.isNone
  | .map r => r.isNone
  | .chan r => r.isNone
  | .func _ fs cs => groundA fs && groundA cs
  | .iface _ v => ground v
  | .agg cs => groundA cs
  | .tuple vs => groundA vs
def groundA : Array Value → Bool
  | ⟨l⟩ => groundL l
def groundL : List Value → Bool
  | [] => true
  | v :: l => ground v && groundL l
end
def prun {α : Type} (P : Program) : Sem α → Option α
  | .pure a => some a
  | .program k => prun P (k P)
  | .mark _ k => prun P k
  | _ => none
def getL : List Value → Nat → Value
  | [], _ => undef
  | v :: _, 0 => v
  | _ :: l, n + 1 => getL l n
def setL : List Value → Nat → Value → List Value
  | [], _, _ => []
  | _ :: l, 0, x => x :: l
  | v :: l, n + 1, x => v :: setL l n x
def getS : Array Value → Nat → Value
  | ⟨l⟩, t => getL l t
def setS : Array Value → Nat → Value → Array Value
  | ⟨l⟩, t, v => ⟨setL l t v⟩
theorem getL_eq : ∀ (l : List Value) (t : Nat), getL l t = (l[t]?).getD undef
  | [], t => by simp [getL]
  | v :: l, 0 => by simp [getL]
  | v :: l, t + 1 => by simpa [getL] using getL_eq l t
theorem getS_eq (a : Array Value) (t : Nat) : getS a t = a.getD t undef := by
  obtain ⟨l⟩ := a
  simp [getS, getL_eq, Array.getD_eq_getD_getElem?]
theorem setL_eq : ∀ (l : List Value) (t : Nat) (v : Value), setL l t v = l.set t v
  | [], t, v => by simp [setL]
  | x :: l, 0, v => by simp [setL]
  | x :: l, t + 1, v => by simpa [setL] using setL_eq l t v
theorem setS_eq (a : Array Value) (t : Nat) (v : Value) : setS a t v = a.setIfInBounds t v := by
  obtain ⟨l⟩ := a
  apply Array.ext'
  simp [setS, setL_eq]
def initT (args : List Value) (n : Nat) : Array Value := ⟨args ++ List.replicate (n - args.length) undef⟩
theorem initT_eq (args : List Value) (n : Nat) : initT args n = args.toArray ++ Array.replicate (n - args.length) undef := by
  apply Array.ext'
  simp [initT]
def aeval (tmps : Array Value) : Operand → Option Value
  | .tmp t => some (getS tmps t)
  | .const v => bif ground v then some v else none
  | .func f => some (.func (.func f) #[] #[])
  | .global _ => none
def aevals (tmps : Array Value) : List Operand → Option (List Value)
  | [] => some []
  | x :: l => match aeval tmps x with
    | some v => match aevals tmps l with
      | some vs => some (v :: vs)
      | none => none
    | none => none
def AW.loadN (A : AW) (a : Addr) (n : Nat) : Option (List Value) :=
  match a.spot with
  | some _ => none
  | none => match A.get a.block with
    | .cells cs _ _ _ => bif Nat.ble (a.off + n) cs.length then some ((cs.drop a.off).take n) else none
    | _ => none
def oneCells : List Value → Bool
  | [] => true
  | v :: l => v.oneCell' && oneCells l
def splice (cs : List Value) (o : Nat) (vs : List Value) : List Value := cs.take o ++ vs ++ cs.drop (o + vs.length)
def AW.storeN (A : AW) (a : Addr) (vs : List Value) : Option AW :=
  match a.spot with
  | some _ => none
  | none => match A.get a.block with
    | .cells cs false opn esz => bif Nat.ble (a.off + vs.length) cs.length && oneCells vs then some (A.set a.block (.cells (splice cs a.off vs) false opn esz)) else none
    | _ => none
def AW.newRow (A : AW) (vs : List Value) : Option (Addr × AW) :=
  bif oneCells vs then some (⟨A.nid, 0, none⟩, A.push (.cells vs false false 1)) else none
def aload (P : Program) (A : AW) (t : TypeId) (a : Addr) : Option Value :=
  match prun P (isAgg t) with
  | some true => match prun P (sizeOf t) with
    | some n => match A.loadN a n with
      | some vs => some (.agg vs.toArray)
      | none => none
    | none => none
  | some false => match A.loadN a 1 with
    | some [v] => some v
    | _ => none
  | none => none
def astore (P : Program) (A : AW) (t : TypeId) (a : Addr) (v : Value) : Option AW :=
  match prun P (sizeOf t) with
  | some n => bif n.beq v.cells.size then A.storeN a v.cells.toList else none
  | none => none
def acells (A : AW) (size : Nat) : Value → Option (Nat × List Value)
  | .slice (some a) n _ => match A.loadN a (n * size) with
    | some vs => some (n, vs)
    | none => none
  | .slice none 0 0 => some (0, [])
  | .string s => some (s.size, s.data.toList.map fun b => .int .u8 b.toNat)
  | _ => none
def exactCap (A : AW) (a : Addr) (cap size : Nat) : Option Bool :=
  match A.get a.block with
  | .cells cs _ opn esz => bif !opn then some true else bif esz.beq size then some (!(Nat.beq (a.off + cap * size) cs.length)) else none
  | _ => none
def appendGrow (A : AW) (size need : Nat) (old new : List Value) : Option (Value × AW) :=
  bif oneCells old && oneCells new && Nat.beq (old.length + new.length) (need * size) then
    some (.slice (some ⟨A.nid, 0, none⟩) need need, A.push (.cells (old ++ new) false true size)) else none
def zerosL (z : Array Value) (n : Nat) : List Value := (List.range n).map (fun i => z[i % z.size]!)
def aappendAt (A : AW) (size : Nat) (s : Value) (k : Nat) (new : List Value) : Option (Value × AW) :=
  match s with
  | .slice none 0 0 =>
    bif k.beq 0 then some (.slice none 0 0, A)
    else bif Nat.ble k 1073741824 then appendGrow A size k [] new else none
  | .slice (some a) sLen sCap =>
    let need := sLen + k
    bif Nat.ble need sCap then
      bif k.beq 0 then (bif a.spot.isSome then none else some (.slice (some a) need sCap, A)) else
      match A.storeN (a.add (sLen * size)) new with
      | some A' => some (.slice (some a) need sCap, A')
      | none => none
    else bif Nat.ble need 1073741824 then
      match A.loadN a (sLen * size) with
      | none => none
      | some old =>
        match exactCap A a sCap size with
        | none => none
        | some true => appendGrow A size need old new
        | some false => match A.get a.block with
          | .cells _ false true _ => bif sLen.beq sCap then appendGrow (A.set a.block .dead) size need old new else none
          | _ => none
    else none
  | _ => none
def asrc (A : AW) (size : Nat) (z : Array Value) (isInt : Bool) (x : Value) : Option (Nat × List Value) :=
  bif isInt then
    match x with
    | .int _ (.ofNat n) => bif Nat.ble n 1073741824 then some (n, zerosL z (n * size)) else none
    | _ => none
  else acells A size x
def isIntT : TypeDesc → Bool
  | .int _ => true
  | _ => false
def aappend (P : Program) (A : AW) (argTypes : Array TypeId) (s x : Value) : Option (Value × AW) :=
  match argTypes[0]?, argTypes[1]? with
  | some sType, some xType =>
    match prun P (underlying sType), prun P (underlying xType) with
    | some (.slice elem), some ut =>
      match prun P (sizeOf elem), prun P (typeInfo elem), prun P (zeroValue elem) with
      | some size, some info, some zero =>
        bif Nat.ble 1 size && Nat.ble 1 info.bytes && Nat.ble info.bytes 4096 && Nat.beq zero.cells.size size && groundA zero.cells then
          match asrc A size zero.cells (isIntT ut) x with
          | none => none
          | some (k, new) => aappendAt A size s k new
        else none
      | _, _, _ => none
    | _, _ => none
  | _, _ => none
def abound (x : Value) (y : Nat) : Option Nat :=
  match x with
  | .int _ n => match n with
    | .ofNat i => bif Nat.ble i y then some i else none
    | .negSucc _ => none
  | _ => none
def aboundO (x : Option Value) (y d : Nat) : Option Nat :=
  match x with
  | some v => abound v y
  | none => some d
def aslice (A : AW) (size : Nat) (x : Value) (lo hi mx : Option Value) : Option (Value × AW) :=
  match x with
  | .slice a len cap =>
    match aboundO mx cap cap with
    | none => none
    | some m => match aboundO hi m len with
      | none => none
      | some h => match aboundO lo h 0 with
        | none => none
        | some l =>
          bif !(Nat.ble h m) then none else
          match a with
          | none => some (.slice none (h - l) (m - l), A)
          | some a =>
            bif a.spot.isSome then none else
            match A.get a.block with
            | .cells cs ro opn esz =>
              bif !opn then some (.slice (some (bif m.beq l then a else a.add (l * size))) (h - l) (m - l), A)
              else bif !(esz.beq size) then none
              else bif m.beq l then
                (bif (mx.isSome || !(Nat.beq (a.off + cap * size) cs.length)) && !(a.off.beq cs.length) then some (.slice (some a) (h - l) (m - l), A)
                else some (.slice (some ⟨A.nid, 0, none⟩) 0 0, A.push (.cells [] true (!(mx.isSome || !(Nat.beq (a.off + cap * size) cs.length))) size)))
              else bif mx.isSome && Nat.beq (a.off + m * size) cs.length then
                (bif ro then none else some (.slice (some ⟨A.nid, a.off + l * size, none⟩) (h - l) (m - l), (A.set a.block .dead).push (.cells cs false false esz)))
              else some (.slice (some (a.add (l * size))) (h - l) (m - l), A)
            | _ => none
  | _ => none
abbrev CallF := FuncId → List Value → AW → Option (Value × AW)
def isNilLit : Value → Bool
  | .pointer none | .slice none _ _ | .map none | .nilFunc | .nilIface => true
  | _ => false
def nilCmp (P : Program) (t : TypeId) (x y : Value) : Option Bool :=
  match prun P (underlying t), x, y with
  | some (.pointer _), .pointer (some _), .pointer none => some false
  | some (.pointer _), .pointer none, .pointer (some _) => some false
  | some (.slice _), .slice (some _) _ _, .slice none _ _ => some false
  | some (.slice _), .slice none _ _, .slice (some _) _ _ => some false
  | some (.map _ _), .map (some _), .map none => some false
  | some (.map _ _), .map none, .map (some _) => some false
  | some (.func _ _ _), .func _ _ _, .nilFunc => some false
  | some (.func _ _ _), .nilFunc, .func _ _ _ => some false
  | _, _, _ => none
def onV (x : Option Value) (A : AW) : Option (Value × AW) :=
  match x with
  | some v => some (v, A)
  | none => none
def onG (x : Option Value) (A : AW) : Option (Value × AW) :=
  match x with
  | some v => bif ground v then some (v, A) else none
  | none => none
def afill (place : Nat → Option (Nat × Nat)) (cells : List Value) : List (Nat × Value) → Option (List Value)
  | [] => some cells
  | (i, v) :: rest =>
    match place i with
    | none => none
    | some (off, size) =>
      bif v.cells.size.beq size && Nat.ble (off + v.cells.size) cells.length then afill place (splice cells off v.cells.toList) rest else none
def aparts (tmps : Array Value) : List (Nat × Operand) → Option (List (Nat × Value))
  | [] => some []
  | (i, x) :: l => match aeval tmps x, aparts tmps l with
    | some v, some r => some ((i, v) :: r)
    | _, _ => none
def abuild (P : Program) (t : TypeId) (parts : List (Nat × Value)) : Option Value :=
  match prun P (zeroValue t), prun P (underlying t) with
  | some z, some (.struct fields) =>
    match prun P (fields.mapM fun f => do pure (f.offset, ← sizeOf f.type)) with
    | some places => match afill (places[·]?) z.cells.toList parts with
      | some cs => bif groundA z.cells && oneCells cs then some (.agg cs.toArray) else none
      | none => none
    | none => none
  | some z, some (.array _ elem) =>
    match prun P (sizeOf elem) with
    | some size => match afill (fun i => some (i * size, size)) z.cells.toList parts with
      | some cs => bif groundA z.cells && oneCells cs then some (.agg cs.toArray) else none
      | none => none
    | none => none
  | _, _ => none
def abuildSlice (P : Program) (t : TypeId) (len : Nat) (parts : List (Nat × Value)) (A : AW) : Option (Value × AW) :=
  match prun P (underlying t) with
  | some (.slice elem) =>
    match prun P (sizeOf elem), prun P (zeroValue elem) with
    | some size, some z =>
      bif Nat.ble (len * size) 16777216 && groundA z.cells then
        match afill (fun i => some (i * size, size)) ((List.range (len * size)).map (fun i => z.cells[i % z.cells.size]!)) parts with
        | some cs => match A.newRow cs with
          | some (a, A') => some (.slice (some a) len len, A')
          | none => none
        | none => none
      else none
    | _, _ => none
  | _ => none
def abox (A : AW) (v : Value) : Option (Value × AW) :=
  match A.newRow v.cells.toList with
  | some (a, A') => some (.pointer (some a), A')
  | none => none
def afieldAddr (P : Program) (s : TypeId) (x : Value) (f : Nat) : Option Value :=
  match prun P (underlying s), x with
  | some (.struct fields), .pointer (some a) =>
    match fields[f]? with
    | some fd => match prun P (sizeOf fd.type) with
      | some (_ + 1) => bif a.spot.isSome then none else some (.pointer (some (a.add fd.offset)))
      | _ => none
    | none => none
  | _, _ => none
def aindexAddr (P : Program) (t : TypeId) (x ix : Value) : Option Value :=
  match ix with
  | .int _ (.ofNat i) =>
    match prun P (underlying t), x with
    | some (.array len elem), .pointer (some a) => match prun P (sizeOf elem) with
      | some size => bif a.spot.isSome || !(Nat.blt i len) then none else some (.pointer (some (a.add (i * size))))
      | none => none
    | some (.slice elem), .slice (some a) len _ => match prun P (sizeOf elem) with
      | some size => bif a.spot.isSome || !(Nat.blt i len) then none else some (.pointer (some (a.add (i * size))))
      | none => none
    | _, _ => none
  | _ => none
def asliceArr (P : Program) (A : AW) (t : TypeId) (x : Value) (lo hi mx : Option Value) : Option (Value × AW) :=
  match prun P (underlying t), x with
  | some (.array n elem), .pointer (some a) =>
    match prun P (sizeOf elem), aboundO mx n n with
    | some size, some m => match aboundO hi m n with
      | none => none
      | some h => match aboundO lo h 0 with
        | none => none
        | some l => bif a.spot.isSome then none else match A.get a.block with
          | .cells _ _ false _ => some (.slice (some (bif m.beq l then a else a.add (l * size))) (h - l) (m - l), A)
          | _ => none
    | _, _ => none
  | _, _ => none
def groundO : Option Value → Bool
  | none => true
  | some v => ground v
def asliceOp (P : Program) (A : AW) (t : TypeId) (x : Value) (lo hi mx : Option Value) : Option (Value × AW) :=
  bif mx.isSome && hi.isNone then none else
  match prun P (underlying t) with
  | some (.array _ _) => asliceArr P A t x lo hi mx
  | some .string => bif ground x && groundO lo && groundO hi && groundO mx then onG (prun P (Instr.sliceAt t x lo hi mx)) A else none
  | some (.slice elem) => match prun P (sizeOf elem) with
    | some size => aslice A size x lo hi mx
    | none => none
  | _ => none
def amakeSlice (P : Program) (t : TypeId) (len cap : Value) (A : AW) : Option (Value × AW) :=
  match len, cap with
  | .int _ (.ofNat l), .int _ (.ofNat c) =>
    match prun P (underlying t) with
    | some (.slice elem) => match prun P (typeInfo elem), prun P (sizeOf elem), prun P (zeroValue elem) with
      | some info, some size, some z =>
        bif Nat.ble l c && Nat.ble c 1073741824 && Nat.ble info.bytes 4096 && groundA z.cells && Nat.ble 1 z.cells.size then
          match A.newRow ((List.range (c * size)).map (fun i => z.cells[i % z.cells.size]!)) with
          | some (a, A') => some (.slice (some a) l c, A')
          | none => none
        else none
      | _, _, _ => none
    | _ => none
  | _, _ => none
def alen (A : AW) (x : Value) : Option Value :=
  match x with
  | .string s => some (goInt s.size)
  | .slice _ n _ => some (goInt n)
  | .map none => some (goInt 0)
  | .map (some r) => match A.get r with
    | .map es _ => some (goInt es.length)
    | _ => none
  | _ => none
def lenOk (P : Program) (t : Option TypeId) (x : Value) : Bool :=
  match t with
  | none => false
  | some t => match prun P (underlying t), x with
    | some .string, .string _ => true
    | some (.slice _), .slice _ _ _ => true
    | some (.map _ _), .map _ => true
    | _, _ => false
def srcLen : Value → Option Nat
  | .slice _ n _ => some n
  | .string s => some s.size
  | _ => none
def srcCells (A : AW) (size n : Nat) : Value → Option (List Value)
  | .slice (some a) _ _ => A.loadN a (n * size)
  | .slice none _ _ => some []
  | .string s => some ((s.extract 0 n).data.toList.map fun b => .int .u8 b.toNat)
  | _ => none
def acopyTo (A : AW) (base : Option Addr) (n : Nat) (vs : List Value) : Option (Value × AW) :=
  match base with
  | none => some (goInt n, A)
  | some a => match vs with
    | [] => bif a.spot.isSome then none else some (goInt n, A)
    | v :: r => match A.storeN a (v :: r) with
      | some A' => some (goInt n, A')
      | none => none
def acopy (P : Program) (A : AW) (argTypes : Array TypeId) (dst src : Value) : Option (Value × AW) :=
  match argTypes[0]?, dst with
  | some dType, .slice base dLen _ =>
    match prun P (underlying dType) with
    | some (.slice elem) => match prun P (sizeOf elem), srcLen src with
      | some size, some m => match srcCells A size (Nat.min m dLen) src with
        | none => none
        | some vs => acopyTo A base (Nat.min m dLen) vs
      | _, _ => none
    | _ => none
  | _, _ => none
def aclear (P : Program) (A : AW) (argTypes : Array TypeId) (x : Value) : Option (Value × AW) :=
  match argTypes[0]?, x with
  | some t, .slice (some a) (n + 1) _ => match prun P (underlying t) with
    | some (.slice elem) => match prun P (zeroValue elem) with
      | some z => bif groundA z.cells then match A.storeN a ((List.range ((n + 1) * z.cells.size)).map (fun i => z.cells[i % z.cells.size]!)) with
          | some A' => some (.tuple #[], A')
          | none => none
        else none
      | none => none
    | _ => none
  | some t, .slice _ 0 _ => match prun P (underlying t) with
    | some (.slice _) => some (.tuple #[], A)
    | _ => none
  | _, _ => none
def abytesStr : List Value → ByteArray → Option ByteArray
  | [], s => some s
  | .int .u8 n :: l, s => abytesStr l (s.push (UInt8.ofNat n.toNat))
  | _, _ => none
def aconvert (P : Program) (A : AW) (src dst : TypeId) (x : Value) : Option (Value × AW) :=
  match prun P (underlying src), prun P (underlying dst), x with
  | some (.slice e), some .string, .slice a n _ => match prun P (underlying e), a with
    | some (.int .u8), some a => match A.loadN a n with
      | some vs => match abytesStr vs ByteArray.empty with
        | some s => some (.string s, A)
        | none => none
      | none => none
    | some (.int .u8), none => some (.string ByteArray.empty, A)
    | _, _ => none
  | some .string, some (.slice e), .string s => match prun P (underlying e) with
    | some (.int .u8) => some (.slice (some ⟨A.nid, 0, none⟩) s.size s.size, A.push (.cells (s.data.toList.map fun b => .int .u8 b.toNat) false true 1))
    | _ => none
  | some (.slice _), some (.slice e), .slice (some a) n c => bif Nat.beq src dst then match prun P (underlying e) with
    | some (.int .u8) => match A.get a.block with
      | .cells _ false _ _ => some (.slice (some a) n c, A)
      | _ => none
    | _ => none
    else none
  | _, _, _ => bif ground x then onG (prun P (convert src dst x)) A else none
def sameKey : Value → Value → Option Bool
  | .int k a, .int k' b => bif decide (k = k') then some (a == b) else none
  | _, _ => none
def afind (k : Value) : List MapEntry → Nat → Option (Option (Nat × Value))
  | [], _ => some none
  | e :: es, i => match sameKey k e.key with
    | some true => some (some (i, e.val))
    | some false => afind k es (i + 1)
    | none => none
def keyKind (P : Program) (t : TypeId) (k : Value) : Bool :=
  match prun P (underlying t), k with
  | some (.int _), .int _ _ => true
  | _, _ => false
def mapEnts (A : AW) : Value → Option (List MapEntry)
  | .map none => some []
  | .map (some r) => match A.get r with
    | .map es _ => some es
    | _ => none
  | _ => none
def alookup (P : Program) (A : AW) (t : TypeId) (x k : Value) (commaOk : Bool) : Option Value :=
  match prun P (underlying t) with
  | some (.map key elem) =>
    bif keyKind P key k then
      match mapEnts A x with
      | none => none
      | some es => match afind k es 0, prun P (zeroValue elem) with
        | some (some (_, v)), _ => some (bif commaOk then .tuple #[v, .bool true] else v)
        | some none, some z => bif ground z then some (bif commaOk then .tuple #[z, .bool false] else z) else none
        | _, _ => none
    else none
  | _ => none
def amapUpdate (P : Program) (A : AW) (t : TypeId) (m k v : Value) : Option AW :=
  match prun P (underlying t), m with
  | some (.map key _), .map (some r) =>
    bif keyKind P key k then
      match A.get r with
      | .map es clock => match afind k es 0 with
        | some (some (i, _)) => some (A.set r (.map (es.modify i fun e => { e with key := k, val := v }) clock))
        | some none => some (A.set r (.map (es ++ [{ key := k, val := v, born := clock }]) (clock + 1)))
        | none => none
      | _ => none
    else none
  | _, _ => none
def abuiltin (P : Program) (A : AW) (b : Builtin) (argTypes : Array TypeId) (type : TypeId) (args : List Value) : Option (Value × AW) :=
  match b, args with
  | .len, [x] => bif lenOk P argTypes[0]? x then onV (alen A x) A else none
  | .append, [s, x] => aappend P A argTypes s x
  | .copy, [d, x] => acopy P A argTypes d x
  | .clear, [x] => aclear P A argTypes x
  | .cap, [.slice (some a) _ c] => match argTypes[0]? with
    | some t => match prun P (underlying t) with
      | some (.slice e) => match prun P (sizeOf e) with
        | some size => match exactCap A a c size with
          | some true => some (goInt c, A)
          | _ => none
        | none => none
      | _ => none
    | none => none
  | .cap, [.slice none _ c] => match argTypes[0]? with
    | some t => match prun P (underlying t) with
      | some (.slice _) => some (goInt c, A)
      | _ => none
    | none => none
  | .max, l => bif groundL l then onG (prun P (Builtin.max_ argTypes type l.toArray)) A else none
  | .min, l => bif groundL l then onG (prun P (Builtin.min_ argTypes type l.toArray)) A else none
  | _, _ => none
def acallOp (P : Program) (call : CallF) (tmps : Array Value) (A : AW) (c : Call) (type : TypeId) : Option (Value × AW) :=
  match aevals tmps c.args.toList with
  | none => none
  | some args => match c.callee with
    | .builtin b => abuiltin P A b c.argTypes type args
    | .value f => match aeval tmps f with
      | some (.func (.func fid) first captured) => call fid (first.toList ++ args ++ captured.toList) A
      | _ => none
    | .invoke _ _ => none
def aev1 (tmps : Array Value) (x : Operand) (k : Value → Option (Value × AW)) : Option (Value × AW) :=
  match aeval tmps x with
  | some v => k v
  | none => none
def aevO (tmps : Array Value) : Option Operand → Option (Option Value)
  | none => some none
  | some x => match aeval tmps x with
    | some v => some (some v)
    | none => none
def onW (x : Option AW) : Option (Value × AW) :=
  match x with
  | some A => some (undef, A)
  | none => none
def isAddrV : Value → Bool
  | .pointer (some _) => true
  | .func (.func _) _ _ => true
  | _ => false
def aop (P : Program) (call : CallF) (tmps : Array Value) (o : Oper) (A : AW) : Option (Value × AW) :=
  match o.op with
  | .move x | .assign x => aev1 tmps x fun v => some (v, A)
  | .pick c a b => aev1 tmps c fun cv => match cv with
    | .bool t => aev1 tmps (bif t then a else b) fun v => match aeval tmps (bif t then b else a) with
      | some _ => some (v, A)
      | none => none
    | _ => none
  | .alloc e => match prun P (zeroValue e) with
    | some z => bif groundA z.cells then abox A z else none
    | none => none
  | .box _ x => aev1 tmps x fun v => abox A v
  | .build t parts => match aparts tmps parts.toList with
    | some ps => onV (abuild P t ps) A
    | none => none
  | .buildSlice t len parts => match aparts tmps parts.toList with
    | some ps => abuildSlice P t len ps A
    | none => none
  | .load t a => aev1 tmps a fun v => match v with
    | .pointer (some ad) => onV (aload P A t ad) A
    | _ => none
  | .store t a x => aev1 tmps a fun v => match v with
    | .pointer (some ad) => aev1 tmps x fun u => onW (astore P A t ad u)
    | _ => none
  | .nilCheck x => aev1 tmps x fun v => bif isAddrV v then some (v, A) else none
  | .binOp op t x y _ => aev1 tmps x fun vx => aev1 tmps y fun vy =>
    bif ground vx && ground vy then onG (prun P (do eqGuard op t x y vx vy; binOp op t vx vy)) A
    else match op with
      | .eql => match nilCmp P t vx vy with
        | some b => some (.bool b, A)
        | none => none
      | .neq => match nilCmp P t vx vy with
        | some b => some (.bool !b, A)
        | none => none
      | _ => none
  | .unOp op _ x => aev1 tmps x fun v => bif ground v then onG (prun P (Op.unary op v)) A else none
  | .convert s d x => aev1 tmps x fun v => aconvert P A s d v
  | .makeInterface t x => aev1 tmps x fun v => bif ground v then onG (prun P (Instr.makeInterface t v)) A else none
  | .makeFunc fn first captured => match aevals tmps first.toList, aevals tmps captured.toList with
    | some fs, some cs => some (.func fn fs.toArray cs.toArray, A)
    | _, _ => none
  | .makeMap _ none => some (.map (some A.nid), A.push (.map [] 0))
  | .makeSlice t l c => aev1 tmps l fun vl => aev1 tmps c fun vc => amakeSlice P t vl vc A
  | .slice t x lo hi mx => aev1 tmps x fun v => match aevO tmps lo, aevO tmps hi, aevO tmps mx with
    | some l, some h, some m => asliceOp P A t v l h m
    | _, _, _ => none
  | .fieldAddr s x f => aev1 tmps x fun v => onV (afieldAddr P s v f) A
  | .field t x f => aev1 tmps x fun v => bif ground v then onG (prun P (Instr.field t v f)) A else none
  | .indexAddr t x i => aev1 tmps x fun v => aev1 tmps i fun u => onV (aindexAddr P t v u) A
  | .index t x i => aev1 tmps x fun v => aev1 tmps i fun u => bif ground v && ground u then onG (prun P (Instr.index t v u)) A else none
  | .lookup t x k ok => aev1 tmps x fun v => aev1 tmps k fun u => onV (alookup P A t v u ok) A
  | .mapUpdate t m k x => aev1 tmps m fun vm => aev1 tmps k fun vk => aev1 tmps x fun vx => onW (amapUpdate P A t vm vk vx)
  | .extract x i => aev1 tmps x fun v => match v with
    | .tuple vs => onV vs[i]? A
    | _ => none
  | .call c => acallOp P call tmps A c o.type
  | _ => none
def aput (tmps : Array Value) (dst : Option Tmp) (v : Value) : Array Value :=
  match dst with
  | some d => setS tmps d v
  | none => tmps
def aops (P : Program) (call : CallF) (ops : Array Oper) : List Oper → Array Value → AW → Option (Array Value × AW)
  | [], tmps, A => some (tmps, A)
  | o :: rest, tmps, A =>
    bif Region.wanted o (yielded ops tmps) then
      match aop P call tmps o A with
      | some (v, A') => aops P call ops rest (aput tmps o.dst v) A'
      | none => none
    else aops P call ops rest (aput tmps o.dst undef) A
inductive X where
  | n
  | e (id : Nat)
  | r
abbrev Res := Option (X × Array Value × AW)
def iter (step : Array Value → AW → Res) : Nat → Array Value → AW → Res
  | 0, _, _ => none
  | k + 1, tmps, A => match step tmps A with
    | some (.n, tmps', A') => iter step k tmps' A'
    | r => r
def acode (P : Program) (call : CallF) (draws : Array Oper → Array Value → AW → Option (Array Value × AW)) (rounds : Nat) : Code → Array Value → AW → Res
  | .skip, tmps, A => some (.n, tmps, A)
  | .label _, tmps, A => some (.n, tmps, A)
  | .region _ ops false, tmps, A => match aops P call ops ops.toList tmps A with
    | some (tmps', A') => some (.n, tmps', A')
    | none => none
  | .region _ ops true, tmps, A => match draws ops tmps A with
    | some (tmps', A') => some (.n, tmps', A')
    | none => none
  | .seq a b, tmps, A => match acode P call draws rounds a tmps A with
    | some (.n, tmps', A') => acode P call draws rounds b tmps' A'
    | r => r
  | .cond c a b, tmps, A => match aeval tmps c with
    | some (.bool true) => acode P call draws rounds a tmps A
    | some (.bool false) => acode P call draws rounds b tmps A
    | _ => none
  | .block id body, tmps, A => match acode P call draws rounds body tmps A with
    | some (.e i, tmps', A') => bif i.beq id then some (.n, tmps', A') else some (.e i, tmps', A')
    | r => r
  | .loop body, tmps, A => iter (acode P call draws rounds body) rounds tmps A
  | .exit id, tmps, A => some (.e id, tmps, A)
  | .scope body, tmps, A => acode P call draws rounds body tmps A
  | .ret, tmps, A => some (.r, tmps, A)
  | .goto _, _, _ => none
  | .rangeFunc _ _ _ _, _, _ => none
  | .refuse _, _, _ => none
def aresult (P : Program) (tmps : Array Value) (A : AW) : ResultVar → Option Value
  | .tmp t => some (getS tmps t)
  | .cell a t => match getS tmps a with
    | .pointer (some ad) => aload P A t ad
    | _ => none
def aresults (P : Program) (tmps : Array Value) (A : AW) : List ResultVar → Option (List Value)
  | [] => some []
  | r :: l => match aresult P tmps A r, aresults P tmps A l with
    | some v, some vs => some (v :: vs)
    | _, _ => none
def atuple : List Value → Value
  | [v] => v
  | l => .tuple l.toArray
end Go.Abs
