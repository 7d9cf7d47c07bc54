/- Mv: what is to be shown of a function's code, reckoned by a Lean function over the code: vc. Its soundness stands in the files behind this one. -/
import Derived.Test.YtoifiplefjclbaaMvBase
import Derived.Laws.Entries
namespace Go.Mv
open Go

/-! ### the types that the code names -/
inductive TK where
  | int (k : IntKind) | bool | str | ptr | slice (e : Nat) | arr (n e : Nat) | struct (fs : List (Nat × Nat)) | func | other
  deriving DecidableEq
structure TI where
  k : TK
  size : Nat
  bytes : Nat
  zero : LC
  eq : Bool := false
abbrev Tbl := List (Nat × TI)
def Tbl.at : Tbl → Nat → TI
  | [], _ => ⟨.other, 0, 0, .cells [], false⟩
  | (i, x) :: r, t => bif Nat.beq i t then x else Tbl.at r t

/-! ### reading slots -/
def lkK : Env → Nat → (AV → Prop) → Prop
  | [], _, _ => False
  | (i, x) :: e, t, k => bif Nat.beq i t then k x else lkK e t k
def evK (S : St) : Operand → (AV → Prop) → Prop
  | .tmp t, k => lkK S.env t k
  | .const v, k => k (.v v)
  | .global g, k => k (.v (.pointer (some ⟨g, 0, none⟩)))
  | .func f, k => k (.v (.func (.func f) #[] #[]))
/-- Its value, where it is one. -/
def valK (x : AV) (k : Value → Prop) : Prop :=
  match x with
  | .v v => k v
  | .ints kd xs => k (.agg (intCells kd xs).toArray)
  | .bools xs => k (.agg (boolCells xs).toArray)
  | .loc _ _ => False
def evsK (S : St) : List Operand → (List Value → Prop) → Prop
  | [], k => k []
  | o :: r, k => evK S o fun x => valK x fun v => evsK S r fun vs => k (v :: vs)
/-- Both ways of a test. -/
def brk (b : Bool) (A B : Prop) : Prop := match b with
  | true => A
  | false => B
theorem brk_intro {b : Bool} {A B : Prop} (h : b = true → A) (k : b = false → B) : brk b A B := by
  cases b
  · exact k rfl
  · exact h rfl
/-- What is decided by reckoning. -/
def req (b : Bool) (A : Prop) : Prop := match b with
  | true => A
  | false => False
theorem req_spec {b : Bool} {A : Prop} (h : req b A) : b = true ∧ A := by
  cases b
  · exact h.elim
  · exact ⟨rfl, h⟩
def IntKind.eqb (a b : IntKind) : Bool := match a, b with
  | .i8, .i8 | .i16, .i16 | .i32, .i32 | .i64, .i64 | .u8, .u8 | .u16, .u16 | .u32, .u32 | .u64, .u64 => true
  | _, _ => false
theorem IntKind.eqb_spec {a b : IntKind} (h : IntKind.eqb a b = true) : a = b := by cases a <;> cases b <;> first | rfl | cases h
def TK.isBool : TK → Bool | .bool => true | _ => false
def TK.isPtr : TK → Bool | .ptr => true | _ => false
def TK.isSlice : TK → Bool | .slice _ => true | _ => false
def TK.isFunc : TK → Bool | .func => true | _ => false
def TK.isInt (kd : IntKind) : TK → Bool | .int k => IntKind.eqb k kd | _ => false

/-! ### memory, by types -/
def ldS (m : Mem) (p : Addr) (tk : TK) (k : Value → Prop) : Prop :=
  match tk with
  | .int kd => ∃ x, m.cell p = some (.int kd x) ∧ k (.int kd x)
  | .bool => ∃ b, m.cell p = some (.bool b) ∧ k (.bool b)
  | .str => ∃ s, m.cell p = some (.string s) ∧ k (.string s)
  | .ptr => ∃ q, m.cell p = some (.pointer q) ∧ k (.pointer q)
  | .slice _ => ∃ A n c, m.cell p = some (.slice A n c) ∧ k (.slice A n c)
  | .func => ∃ v, m.cell p = some v ∧ k v
  | _ => False
def flat (T : Tbl) : Nat → Nat → List TK
  | 0, _ => [.other]
  | d + 1, t => match (T.at t).k with
    | .struct fs => fs.flatMap fun f => flat T d f.2
    | .arr n e => (List.range n).flatMap fun _ => flat T d e
    | tk => [tk]
noncomputable def ldL (m : Mem) (p : Addr) (i : Nat) (tks : List TK) : (List Value → Prop) → Prop :=
  List.rec (motive := fun _ => Nat → (List Value → Prop) → Prop) (fun _ k => k []) (fun tk _ ih i k => ldS m (p.add i) tk fun v => ih (i + 1) fun vs => k (v :: vs)) tks i
theorem ldL_nil {m : Mem} {p : Addr} {i : Nat} {k : List Value → Prop} : ldL m p i [] k = k [] := rfl
theorem ldL_cons {m : Mem} {p : Addr} {i : Nat} {tk : TK} {r : List TK} {k : List Value → Prop} : ldL m p i (tk :: r) k = ldS m (p.add i) tk fun v => ldL m p (i + 1) r fun vs => k (v :: vs) := rfl
noncomputable def ldT (T : Tbl) (m : Mem) (p : Addr) (t : Nat) (k : AV → Prop) : Prop :=
  match (T.at t).k with
  | .arr n e => req (Nat.beq (T.at t).size n) <| match (T.at e).k with
    | .int kd => ∃ xs : List Int, xs.length = n ∧ (∀ i, i < n → m.cell (p.add i) = some (.int kd (xs.getD i 0))) ∧ k (.ints kd xs)
    | .bool => ∃ xs : List Bool, xs.length = n ∧ (∀ i, i < n → m.cell (p.add i) = some (.bool (xs.getD i false))) ∧ k (.bools xs)
    | _ => False
  | .struct _ => req (Nat.beq (flat T 8 t).length (T.at t).size) <| ldL m p 0 (flat T 8 t) fun vs => k (.v (.agg vs.toArray))
  | tk => ldS m p tk fun v => k (.v v)
def ldLoc (T : Tbl) (c : LC) (off t : Nat) (k : AV → Prop) : Prop :=
  match (T.at t).k, c with
  | .arr _ _, .ints kd xs => off = 0 ∧ (T.at t).size = xs.length ∧ k (.ints kd xs)
  | .arr _ _, .bools xs => off = 0 ∧ (T.at t).size = xs.length ∧ k (.bools xs)
  | .struct _, .cells l => req (Nat.ble (off + (T.at t).size) l.length) <| k (.v (.agg ((l.drop off).take (T.at t).size).toArray))
  | .int kd', .ints kd xs => req (IntKind.eqb kd' kd) <| off < xs.length ∧ k (.v (.int kd (xs.getD off 0)))
  | .bool, .bools xs => off < xs.length ∧ k (.v (.bool (xs.getD off false)))
  | .arr _ _, _ | .struct _, _ | .other, _ | _, .ints _ _ | _, .bools _ => False
  | _, .cells l => match l[off]? with
    | some v => k (.v v)
    | none => False
def writeAt (l : List Value) : Nat → List Value → List Value
  | _, [] => l
  | i, v :: r => writeAt (l.set i v) (i + 1) r
def oneCells : List Value → Bool
  | [] => true
  | v :: r => v.oneCell' && oneCells r
def stLoc (T : Tbl) (c : LC) (off t : Nat) (x : AV) (k : LC → Prop) : Prop :=
  match c, x with
  | .ints kd xs, .v (.int kd' v) => req (IntKind.eqb kd kd') <| req (Nat.beq (T.at t).size 1) <| off < xs.length ∧ k (.ints kd (xs.set off v))
  | .bools xs, .v (.bool v) => req (Nat.beq (T.at t).size 1) <| off < xs.length ∧ k (.bools (xs.set off v))
  | .ints kd xs, .ints kd' ys => req (IntKind.eqb kd kd') <| off = 0 ∧ (T.at t).size = ys.length ∧ xs.length = ys.length ∧ k (.ints kd ys)
  | .bools xs, .bools ys => off = 0 ∧ (T.at t).size = ys.length ∧ xs.length = ys.length ∧ k (.bools ys)
  | .cells l, .v (.agg cs) => req (Nat.beq cs.toList.length (T.at t).size) <| req (Nat.ble (off + cs.toList.length) l.length) <| req (oneCells cs.toList) <| k (.cells (writeAt l off cs.toList))
  | .cells l, .v v => req (Nat.beq (T.at t).size 1) <| req (Nat.blt off l.length) <| req v.oneCell' <| k (.cells (l.set off v))
  | _, _ => False
def Mem.setCells (m : Mem) (p : Addr) : Nat → List Value → Mem
  | _, [] => m
  | i, v :: r => Mem.setCells (m.setCell (p.add i) v) p (i + 1) r
/-- n cells from p on are there and may be written. -/
def Mem.room (m : Mem) (p : Addr) (n : Nat) : Prop := ∀ i, i < n → (∃ u, m.cell (p.add i) = some u) ∧ m.fz (p.add i) = false
def stMem (T : Tbl) (m : Mem) (p : Addr) (t : Nat) (x : AV) (k : Mem → Prop) : Prop :=
  match x with
  | .v (.agg cs) => req (Nat.beq cs.toList.length (T.at t).size) <| req (oneCells cs.toList) <| m.room p (T.at t).size ∧ k (m.setCells p 0 cs.toList)
  | .v v => req (Nat.beq (T.at t).size 1) <| req v.oneCell' <| ((∃ u, m.cell p = some u) ∧ m.fz p = false) ∧ k (m.setCell p v)
  | .ints kd xs => xs.length = (T.at t).size ∧ m.room p (T.at t).size ∧ k (m.setCells p 0 (intCells kd xs))
  | .bools xs => xs.length = (T.at t).size ∧ m.room p (T.at t).size ∧ k (m.setCells p 0 (boolCells xs))
  | .loc _ _ => False

/-! ### operators -/
def intK (op : BinOp) (kd : IntKind) (a b : Int) (k : Value → Prop) : Prop :=
  match op with
  | .add => k (.int kd (kd.wrap (a + b)))
  | .sub => k (.int kd (kd.wrap (a - b)))
  | .mul => k (.int kd (kd.wrap (a * b)))
  | .quo => b ≠ 0 ∧ k (.int kd (kd.wrap (a.tdiv b)))
  | .rem => b ≠ 0 ∧ k (.int kd (a.tmod b))
  | .and => k (.int kd (Go.bits .and kd a b))
  | .or => k (.int kd (Go.bits .or kd a b))
  | .xor => k (.int kd (Go.bits .xor kd a b))
  | .andNot => k (.int kd (Go.bits .andNot kd a b))
  | .eql => k (.bool (a == b))
  | .neq => k (.bool (a != b))
  | .lss => k (.bool (decide (a < b)))
  | .leq => k (.bool (decide (a ≤ b)))
  | .gtr => k (.bool (decide (a > b)))
  | .geq => k (.bool (decide (a ≥ b)))
  | _ => False
/-- Equality of rows of whole numbers, cell by cell. -/
def cellsEq : List TK → List Value → List Value → (Bool → Prop) → Prop
  | [], [], [], k => k true
  | .int _ :: ts, .int kd a :: r, .int kd' b :: s, k => req (IntKind.eqb kd kd') <| cellsEq ts r s fun c => k (a == b && c)
  | .bool :: ts, .bool a :: r, .bool b :: s, k => cellsEq ts r s fun c => k (a == b && c)
  | _, _, _, _ => False
def offsOk : Nat → List (Nat × Nat) → Bool
  | _, [] => true
  | i, f :: r => Nat.beq f.1 i && offsOk (i + 1) r
def flatInt (T : Tbl) (t : Nat) (k : List TK → Prop) : Prop := match (T.at t).k with
  | .struct fs => req (T.at t).eq <| req (offsOk 0 fs) <| k (fs.map fun f => (T.at f.2).k)
  | _ => False
def binK (T : Tbl) (op : BinOp) (t : Nat) (x y : AV) (k : Value → Prop) : Prop :=
  match op, x, y with
  | .shl, .v (.int kd a), .v (.int _ b) => 0 ≤ b ∧ k (.int kd (kd.wrap (a * 2 ^ (min b.toNat kd.bits))))
  | .shr, .v (.int kd a), .v (.int _ b) => 0 ≤ b ∧ k (.int kd (a.fdiv (2 ^ (min b.toNat kd.bits))))
  | op, .v (.int kd a), .v (.int kd' b) => req (IntKind.eqb kd kd') <| intK op kd a b k
  | .eql, .v (.bool a), .v (.bool b) => req (T.at t).k.isBool <| k (.bool (a == b))
  | .neq, .v (.bool a), .v (.bool b) => req (T.at t).k.isBool <| k (.bool (!(a == b)))
  | .eql, .v (.pointer p), .v (.pointer none) => req (T.at t).k.isPtr <| k (.bool p.isNone)
  | .neq, .v (.pointer p), .v (.pointer none) => req (T.at t).k.isPtr <| k (.bool (!p.isNone))
  | .eql, .v (.pointer (some p)), .v (.pointer (some q)) => req (T.at t).k.isPtr <| p = q ∧ k (.bool true)
  | .neq, .v (.pointer (some p)), .v (.pointer (some q)) => req (T.at t).k.isPtr <| p = q ∧ k (.bool false)
  | .eql, .v (.slice A _ _), .v (.slice none 0 0) => req (T.at t).k.isSlice <| k (.bool A.isNone)
  | .neq, .v (.slice A _ _), .v (.slice none 0 0) => req (T.at t).k.isSlice <| k (.bool (!A.isNone))
  | .eql, .v (.func _ _ _), .v .nilFunc => req (T.at t).k.isFunc <| k (.bool false)
  | .neq, .v (.func _ _ _), .v .nilFunc => req (T.at t).k.isFunc <| k (.bool true)
  | .add, .v (.string a), .v (.string b) => ((a.size + b.size : Nat) : Int) ≤ IntKind.i64.max ∧ k (.string (a ++ b))
  | .eql, .v (.string a), .v (.string b) => k (.bool (a.toList == b.toList))
  | .neq, .v (.string a), .v (.string b) => k (.bool (!(a.toList == b.toList)))
  | .eql, .ints kd xs, .ints kd' ys => req (IntKind.eqb kd kd') <| match (T.at t).k with
    | .arr n e => req ((T.at e).k.isInt kd) <| req (Nat.beq (T.at e).size 1) <| req (T.at t).eq <| xs.length = n ∧ ys.length = n ∧ k (.bool (xs == ys))
    | _ => False
  | .neq, .ints kd xs, .ints kd' ys => req (IntKind.eqb kd kd') <| match (T.at t).k with
    | .arr n e => req ((T.at e).k.isInt kd) <| req (Nat.beq (T.at e).size 1) <| req (T.at t).eq <| xs.length = n ∧ ys.length = n ∧ k (.bool (!(xs == ys)))
    | _ => False
  | .eql, .v (.agg xs), .v (.agg ys) => flatInt T t fun ts => cellsEq ts xs.toList ys.toList fun c => k (.bool c)
  | .neq, .v (.agg xs), .v (.agg ys) => flatInt T t fun ts => cellsEq ts xs.toList ys.toList fun c => k (.bool (!c))
  | _, _, _ => False
def unK (op : UnOp) (x : AV) (k : Value → Prop) : Prop :=
  match op, x with
  | .not, .v (.bool b) => k (.bool (!b))
  | .neg, .v (.int kd n) => k (.int kd (kd.wrap (0 - n)))
  | .xor, .v (.int kd n) => k (.int kd (Go.bits .xor kd (if kd.signed then -1 else kd.max) n))
  | _, _ => False
def pickK (c : Bool) (x y : AV) (k : AV → Prop) : Prop :=
  match x, y with
  | .v (.bool p), .v (.bool q) => k (.v (.bool (bif c then p else q)))
  | x, y => brk c (k x) (k y)
def bt (s : ByteArray) (i : Int) : Int := (((s.data.toList.getD i.toNat 0).toNat : Nat) : Int)
def fillK (S : St) (place : Nat → Option (Nat × Nat)) : List (Nat × Operand) → List Value → (List Value → Prop) → Prop
  | [], l, k => k l
  | (i, o) :: r, l, k => match place i with
    | none => False
    | some (off, size) => evK S o fun x => valK x fun v => req (Nat.beq v.cells.toList.length size) <| req (Nat.ble (off + size) l.length) <| fillK S place r (writeAt l off v.cells.toList) k
noncomputable def fillIntsK (S : St) (kd : IntKind) (parts : List (Nat × Operand)) : List Int → (List Int → Prop) → Prop :=
  List.rec (motive := fun _ => List Int → (List Int → Prop) → Prop) (fun l k => k l) (fun a _ ih l k => evK S a.2 fun x => match x with
    | .v (.int kd' v) => req (IntKind.eqb kd kd') <| a.1 < l.length ∧ ih (l.set a.1 v) k
    | _ => False) parts
theorem fillIntsK_nil {S : St} {kd : IntKind} {l : List Int} {k : List Int → Prop} : fillIntsK S kd [] l k = k l := rfl
theorem fillIntsK_cons {S : St} {kd : IntKind} {i : Nat} {o : Operand} {r : List (Nat × Operand)} {l : List Int} {k : List Int → Prop} : fillIntsK S kd ((i, o) :: r) l k = evK S o fun x => match x with
    | .v (.int kd' v) => req (IntKind.eqb kd kd') <| i < l.length ∧ fillIntsK S kd r (l.set i v) k
    | _ => False := rfl
def optK (S : St) (o : Option Operand) (d : Int) (k : Int → Prop) : Prop :=
  match o with
  | some o => evK S o fun x => match x with
    | .v (.int _ n) => k n
    | _ => False
  | none => k d
/-- A value that came out of a call or a tuple, by its type. -/
def normK (T : Tbl) (t : Nat) (v : Value) (k : AV → Prop) : Prop :=
  match (T.at t).k with
  | .arr n e => match (T.at e).k with
    | .int kd => ∃ xs : List Int, xs.length = n ∧ v = .agg (intCells kd xs).toArray ∧ k (.ints kd xs)
    | .bool => ∃ xs : List Bool, xs.length = n ∧ v = .agg (boolCells xs).toArray ∧ k (.bools xs)
    | _ => k (.v v)
  | _ => k (.v v)
def byteVals (l : List UInt8) : List Value := l.map fun b => .int .u8 b.toNat
/-- What a text's bytes are laid as. -/
def byteRow (t : ByteArray) (cap : Nat) : List Value := byteVals t.data.toList ++ List.replicate (cap - t.size) (Value.int .u8 0)
def bytesObj (t : ByteArray) (cap e : Nat) : Obj := .cells (byteRow t cap).toArray e ((byteRow t cap).length, (byteRow t cap).length + 1)
def newKS (pr : List Nat) (dst : Option Nat) (c : LC) (e : Nat) (S : St) (K : St → Prop) : Prop :=
  match dst with
  | some d =>
    bif pr.contains d then K ({ S with ls := S.ls ++ [c] }.put (some d) (.loc S.ls.length 0))
    else ∀ b, S.m b = none → K ({ S with m := S.m.set b (.cells c.list.toArray e (0, 0)) }.put (some d) (.v (.pointer (some ⟨b, 0, none⟩))))
  | none => False
def newK (pr : List Nat) (dst : Option Nat) (c : LC) (e : Nat) (S : St) (K : St → Prop) : Prop := match S with
  | ⟨env, ls, m⟩ =>
    match dst with
    | some d =>
      bif pr.contains d then K ((St.mk env (ls ++ [c]) m).put (some d) (.loc ls.length 0))
      else ∀ b, m b = none → K ((St.mk env ls (m.set b (.cells c.list.toArray e (0, 0)))).put (some d) (.v (.pointer (some ⟨b, 0, none⟩))))
    | none => False
theorem newK_eq {pr : List Nat} {dst : Option Nat} {c : LC} {e : Nat} {S : St} {K : St → Prop} : newK pr dst c e S K = newKS pr dst c e S K := by cases S; rfl
def contentK (x : AV) (k : LC → Prop) : Prop :=
  match x with
  | .v (.agg cs) => k (.cells cs.toList)
  | .v v => k (.cells v.cells.toList)
  | .ints kd xs => k (.ints kd xs)
  | .bools xs => k (.bools xs)
  | .loc _ _ => False
def zerosOf (T : Tbl) (e n : Nat) : LC :=
  match (T.at e).zero with
  | .cells [.int kd 0] => .ints kd (List.replicate n 0)
  | .cells [.bool false] => .bools (List.replicate n false)
  | c => .cells ((List.range n).flatMap fun _ => c.list)
/-- n cells from p on hold vs. -/
def Mem.holds (m : Mem) (p : Addr) (vs : List Value) : Prop := ∀ i v, vs[i]? = some v → m.cell (p.add i) = some v
def ptrK (A : Option Addr) (f : Addr → Prop) (g : Prop) : Prop :=
  match A with
  | some p => f p
  | none => g
/-- An operation of the machine: from every world that holds m a value, and what K says of it and of the memory then; nothing else has turned. -/
def RunP (P : Program) (s : Sem Value) (m : Mem) (K : Value → Mem → Prop) : Prop := ∀ w, m.sub w → ∃ v w' m', s.run P w = .ok v w' ∧ K v m' ∧ Frame m w m' w'
/-- A built-in function, or a function that has no text. -/
def NextP (P : Program) (s : Sem Next) (m : Mem) (K : Value → Mem → Prop) : Prop := ∀ w, m.sub w → ∃ v w' m', s.run P w = .ok (.value v) w' ∧ K v m' ∧ Frame m w m' w'
def constB : Operand → Bool
  | .const _ => true
  | _ => false
def quietBuiltin : Builtin → Bool
  | .len | .cap | .max | .min => true
  | _ => false
/-- The operations that are asked of as the machine does them. -/
def genB : Op → Bool
  | .range .. | .next .. | .makeInterface .. | .lookup .. | .makeMap _ none => true
  | _ => false
def opArgs : Op → List Operand
  | .range _ x => [x]
  | .next x _ => [x]
  | .makeInterface _ x => [x]
  | .lookup _ x i _ => [x, i]
  | _ => []
def opRun (ty : Nat) : Op → List Value → Sem Value
  | .range t _, [x] => Instr.range t x
  | .next _ b, [x] => Instr.next x b ty
  | .makeInterface t _, [x] => Instr.makeInterface t x
  | .lookup t _ _ ok, [x, i] => Instr.lookup t x i ok
  | .makeMap t none, [] => Instr.makeMap t none
  | _, _ => stuck "no such operation"
def callKS (P : Program) (T : Tbl) (B : List Nat) (dst : Option Nat) (ty : Nat) (c : Call) (S : St) (K : St → Prop) : Prop :=
  match c.callee with
  | .value f => evK S f fun x => match x with
    | .v (.func (.func g) first cap) => evsK S c.args.toList fun vs => bif B.contains g then
        FCalls P g (first.toList ++ vs ++ cap.toList) S.m fun v m' => normK T ty v fun y => K ({ S with m := m' }.put dst y)
      else NextP P (callFunc g (first.toList ++ vs ++ cap.toList).toArray) S.m fun v m' => K ({ S with m := m' }.put dst (.v v))
    | .v (.func (.yield l) ⟨[]⟩ ⟨[]⟩) => evsK S c.args.toList fun vs => YCalls P l vs S.m fun v m' => normK T ty v fun y => K ({ S with m := m' }.put dst y)
    | _ => False
  | .invoke _ _ => False
  | .builtin b => match b, c.args.toList, c.argTypes.toList with
    | .len, [o], [t] => evK S o fun x => match (T.at t).k, x with
      | .slice _, .v (.slice _ n _) => K (S.put dst (.v (.int .i64 n)))
      | .str, .v (.string s) => K (S.put dst (.v (.int .i64 s.size)))
      | .arr n _, _ => K (S.put dst (.v (.int .i64 n)))
      | _, _ => False
    | .cap, [o], [t] => evK S o fun x => match (T.at t).k, x with
      | .slice _, .v (.slice _ _ c) => K (S.put dst (.v (.int .i64 c)))
      | .arr n _, _ => K (S.put dst (.v (.int .i64 n)))
      | _, _ => False
    | .max, [o, o'], _ => evK S o fun x => evK S o' fun y => match x, y with
      | .v (.int kd a), .v (.int kd' b) => req (IntKind.eqb kd kd') <| K (S.put dst (.v (.int kd (if b > a then b else a))))
      | _, _ => False
    | .min, [o, o'], _ => evK S o fun x => evK S o' fun y => match x, y with
      | .v (.int kd a), .v (.int kd' b) => req (IntKind.eqb kd kd') <| K (S.put dst (.v (.int kd (if b < a then b else a))))
      | _, _ => False
    | .append, [o, o'], [t, t'] => evK S o fun x => evK S o' fun y => match (T.at t).k, (T.at t').k, x, y with
      | .slice e, .slice _, .v (.slice A n c), .v (.slice B j _) => req (Nat.blt 0 (T.at e).size) <| 
        ∃ news : List Value, news.length = j * (T.at e).size ∧ (j * (T.at e).size = 0 ∨ ∃ p, B = some p ∧ S.m.holds p news) ∧
          (n + j ≤ c → (∃ p, A = some p ∧ S.m.room (p.add (n * (T.at e).size)) (j * (T.at e).size) ∧ oneCells news = true ∧
              K ({ S with m := S.m.setCells (p.add (n * (T.at e).size)) 0 news }.put dst (.v (.slice A (n + j) c)))) ∨
            (A = none ∧ K (S.put dst (.v (.slice A (n + j) c))))) ∧
          (c < n + j → req (Nat.blt 0 (T.at e).bytes) (Builtin.nextslicecap (n + j) c * (T.at e).bytes ≤ 2 ^ 48 ∧
            ∃ olds : List Value, olds.length = n * (T.at e).size ∧ ((n * (T.at e).size = 0 ∧ A = none) ∨ ∃ p, A = some p ∧ S.m.holds p olds) ∧
            ∀ cap b, n + j ≤ cap → S.m b = none →
              K ({ S with m := S.m.set b (.cells (olds ++ news ++ (zerosOf T e (cap - (n + j))).list).toArray e (0, 0)) }.put dst (.v (.slice (some ⟨b, 0, none⟩) (n + j) cap)))))
      | .slice _, .slice _, _, _ => False
      | _, _, .v x, .v y => NextP P (builtin .append c.argTypes ty (c.args.map constB) #[x, y]) S.m fun v m' => K ({ S with m := m' }.put dst (.v v))
      | _, _, _, _ => False
    | .copy, [o, o'], [t, t'] => evK S o fun x => evK S o' fun y => match (T.at t).k, (T.at t').k, x, y with
      | .slice e, .slice _, .v (.slice A n _), .v (.slice B j _) => req (Nat.blt 0 (T.at e).size) <| 
        ∃ news : List Value, news.length = min j n * (T.at e).size ∧ (min j n * (T.at e).size = 0 ∨ ∃ p q, A = some p ∧ B = some q ∧ S.m.holds q news ∧ S.m.room p (min j n * (T.at e).size) ∧ oneCells news = true) ∧
          ptrK A (fun p => K ({ S with m := S.m.setCells p 0 news }.put dst (.v (.int .i64 (min j n : Nat))))) (K (S.put dst (.v (.int .i64 (min j n : Nat)))))
      | _, _, _, _ => False
    | .clear, [o], [t] => evK S o fun x => match (T.at t).k, x with
      | .slice e, .v (.slice A n _) => req (Nat.blt 0 (T.at e).size) <| req (oneCells (T.at e).zero.list) <|
        (A = none ∨ n = 0 → K (S.put dst (.v (.tuple #[])))) ∧
        (∀ p, A = some p → 0 < n → S.m.room p (n * (T.at e).size) ∧ K ({ S with m := S.m.setCells p 0 (zerosOf T e n).list }.put dst (.v (.tuple #[]))))
      | _, _ => False
    | b, _, _ => req (!quietBuiltin b) <| evsK S c.args.toList fun vs => NextP P (builtin b c.argTypes ty (c.args.map constB) vs.toArray) S.m fun v m' => K ({ S with m := m' }.put dst (.v v))

def callK (P : Program) (T : Tbl) (B : List Nat) (dst : Option Nat) (ty : Nat) (c : Call) (S : St) (K : St → Prop) : Prop := match S with
  | ⟨env, ls, m⟩ =>
    match c.callee with
    | .value f => evK (St.mk env ls m) f fun x => match x with
      | .v (.func (.func g) first cap) => evsK (St.mk env ls m) c.args.toList fun vs => bif B.contains g then
          FCalls P g (first.toList ++ vs ++ cap.toList) m fun v m' => normK T ty v fun y => K ((St.mk env ls (m')).put dst y)
        else NextP P (callFunc g (first.toList ++ vs ++ cap.toList).toArray) m fun v m' => K ((St.mk env ls m').put dst (.v v))
      | .v (.func (.yield l) ⟨[]⟩ ⟨[]⟩) => evsK (St.mk env ls m) c.args.toList fun vs => YCalls P l vs m fun v m' => normK T ty v fun y => K ((St.mk env ls (m')).put dst y)
      | _ => False
    | .invoke _ _ => False
    | .builtin b => match b, c.args.toList, c.argTypes.toList with
      | .len, [o], [t] => evK (St.mk env ls m) o fun x => match (T.at t).k, x with
        | .slice _, .v (.slice _ n _) => K ((St.mk env ls m).put dst (.v (.int .i64 n)))
        | .str, .v (.string s) => K ((St.mk env ls m).put dst (.v (.int .i64 s.size)))
        | .arr n _, _ => K ((St.mk env ls m).put dst (.v (.int .i64 n)))
        | _, _ => False
      | .cap, [o], [t] => evK (St.mk env ls m) o fun x => match (T.at t).k, x with
        | .slice _, .v (.slice _ _ c) => K ((St.mk env ls m).put dst (.v (.int .i64 c)))
        | .arr n _, _ => K ((St.mk env ls m).put dst (.v (.int .i64 n)))
        | _, _ => False
      | .max, [o, o'], _ => evK (St.mk env ls m) o fun x => evK (St.mk env ls m) o' fun y => match x, y with
        | .v (.int kd a), .v (.int kd' b) => req (IntKind.eqb kd kd') <| K ((St.mk env ls m).put dst (.v (.int kd (if b > a then b else a))))
        | _, _ => False
      | .min, [o, o'], _ => evK (St.mk env ls m) o fun x => evK (St.mk env ls m) o' fun y => match x, y with
        | .v (.int kd a), .v (.int kd' b) => req (IntKind.eqb kd kd') <| K ((St.mk env ls m).put dst (.v (.int kd (if b < a then b else a))))
        | _, _ => False
      | .append, [o, o'], [t, t'] => evK (St.mk env ls m) o fun x => evK (St.mk env ls m) o' fun y => match (T.at t).k, (T.at t').k, x, y with
        | .slice e, .slice _, .v (.slice A n c), .v (.slice B j _) => req (Nat.blt 0 (T.at e).size) <| 
          ∃ news : List Value, news.length = j * (T.at e).size ∧ (j * (T.at e).size = 0 ∨ ∃ p, B = some p ∧ m.holds p news) ∧
            (n + j ≤ c → (∃ p, A = some p ∧ m.room (p.add (n * (T.at e).size)) (j * (T.at e).size) ∧ oneCells news = true ∧
                K ((St.mk env ls (m.setCells (p.add (n * (T.at e).size)) 0 news)).put dst (.v (.slice A (n + j) c)))) ∨
              (A = none ∧ K ((St.mk env ls m).put dst (.v (.slice A (n + j) c))))) ∧
            (c < n + j → req (Nat.blt 0 (T.at e).bytes) (Builtin.nextslicecap (n + j) c * (T.at e).bytes ≤ 2 ^ 48 ∧
              ∃ olds : List Value, olds.length = n * (T.at e).size ∧ ((n * (T.at e).size = 0 ∧ A = none) ∨ ∃ p, A = some p ∧ m.holds p olds) ∧
              ∀ cap b, n + j ≤ cap → m b = none →
                K ((St.mk env ls (m.set b (.cells (olds ++ news ++ (zerosOf T e (cap - (n + j))).list).toArray e (0, 0)))).put dst (.v (.slice (some ⟨b, 0, none⟩) (n + j) cap)))))
        | .slice _, .slice _, _, _ => False
        | _, _, .v x, .v y => NextP P (builtin .append c.argTypes ty (c.args.map constB) #[x, y]) m fun v m' => K ((St.mk env ls m').put dst (.v v))
        | _, _, _, _ => False
      | .copy, [o, o'], [t, t'] => evK (St.mk env ls m) o fun x => evK (St.mk env ls m) o' fun y => match (T.at t).k, (T.at t').k, x, y with
        | .slice e, .slice _, .v (.slice A n _), .v (.slice B j _) => req (Nat.blt 0 (T.at e).size) <| 
          ∃ news : List Value, news.length = min j n * (T.at e).size ∧ (min j n * (T.at e).size = 0 ∨ ∃ p q, A = some p ∧ B = some q ∧ m.holds q news ∧ m.room p (min j n * (T.at e).size) ∧ oneCells news = true) ∧
            ptrK A (fun p => K ((St.mk env ls (m.setCells p 0 news)).put dst (.v (.int .i64 (min j n : Nat))))) (K ((St.mk env ls m).put dst (.v (.int .i64 (min j n : Nat)))))
        | _, _, _, _ => False
      | .clear, [o], [t] => evK (St.mk env ls m) o fun x => match (T.at t).k, x with
        | .slice e, .v (.slice A n _) => req (Nat.blt 0 (T.at e).size) <| req (oneCells (T.at e).zero.list) <|
          (A = none ∨ n = 0 → K ((St.mk env ls m).put dst (.v (.tuple #[])))) ∧
          (∀ p, A = some p → 0 < n → m.room p (n * (T.at e).size) ∧ K ((St.mk env ls (m.setCells p 0 (zerosOf T e n).list)).put dst (.v (.tuple #[]))))
        | _, _ => False
      | b, _, _ => req (!quietBuiltin b) <| evsK (St.mk env ls m) c.args.toList fun vs => NextP P (builtin b c.argTypes ty (c.args.map constB) vs.toArray) m fun v m' => K ((St.mk env ls m').put dst (.v v))

theorem callK_eq {P : Program} {T : Tbl} {B : List Nat} {dst : Option Nat} {ty : Nat} {c : Call} {S : St} {K : St → Prop} : callK P T B dst ty c S K = callKS P T B dst ty c S K := by cases S; rfl
noncomputable def vcOpS (P : Program) (T : Tbl) (B pr : List Nat) (dst : Option Nat) (op : Op) (ty : Nat) (S : St) (K : St → Prop) : Prop :=
  match op with
  | .move x | .assign x => evK S x fun v => K (S.put dst v)
  | .pick c a b => evK S c fun cv => match cv with
    | .v (.bool c) => evK S a fun x => evK S b fun y => pickK c x y fun v => K (S.put dst v)
    | _ => False
  | .alloc e => req (Nat.blt 0 (T.at e).size) <| newK pr dst (T.at e).zero e S K
  | .box e x => evK S x fun v => contentK v fun c => newK pr dst c e S K
  | .build t parts => match (T.at t).k with
    | .struct fs => req (fs.all fun f => Nat.blt 0 (T.at f.2).size) <| fillK S (fun i => (fs[i]?).map fun f => (f.1, (T.at f.2).size)) parts.toList (T.at t).zero.list fun l => K (S.put dst (.v (.agg l.toArray)))
    | .arr _ e => match (T.at e).k, (T.at t).zero with
      | .int kd, .ints kd' xs => req (IntKind.eqb kd kd') <| req (Nat.beq (T.at e).size 1) <| fillIntsK S kd parts.toList xs fun l => K (S.put dst (.ints kd l))
      | _, _ => req (Nat.blt 0 (T.at e).size) <| fillK S (fun i => some (i * (T.at e).size, (T.at e).size)) parts.toList (T.at t).zero.list fun l => K (S.put dst (.v (.agg l.toArray)))
    | _ => False
  | .buildSlice t len parts => match (T.at t).k with
    | .slice e => req (Nat.blt 0 (T.at e).size) <| req (Nat.ble (len * (T.at e).size) 16777216) <| fillK S (fun i => some (i * (T.at e).size, (T.at e).size)) parts.toList (zerosOf T e len).list fun l =>
        ∀ b, S.m b = none → K ({ S with m := S.m.set b (.cells l.toArray e (0, 0)) }.put dst (.v (.slice (some ⟨b, 0, none⟩) len len)))
    | _ => False
  | .load t p => evK S p fun x => match x with
    | .loc i off => match S.ls[i]? with
      | some c => ldLoc T c off t fun v => K (S.put dst v)
      | none => False
    | .v (.pointer (some p)) => ldT T S.m p t fun v => K (S.put dst v)
    | _ => False
  | .store t p v => req (Nat.blt 0 (T.at t).size) <| evK S p fun x => evK S v fun y => match x with
    | .loc i off => match S.ls[i]? with
      | some c => stLoc T c off t y fun c' => K ({ S with ls := S.ls.set i c' }.put dst (.v undef))
      | none => False
    | .v (.pointer (some p)) => stMem T S.m p t y fun m' => K ({ S with m := m' }.put dst (.v undef))
    | _ => False
  | .nilCheck x => evK S x fun v => match v with
    | .v (.pointer q) => ptrK q (fun p => K (S.put dst (.v (.pointer (some p))))) False
    | .loc i off => K (S.put dst (.loc i off))
    | _ => False
  | .binOp op t x y _ => evK S x fun u => evK S y fun v => binK T op t u v fun r => K (S.put dst (.v r))
  | .unOp op _ x => evK S x fun u => unK op u fun r => K (S.put dst (.v r))
  | .convert s d x => evK S x fun u => match (T.at s).k, (T.at d).k, u with
    | .int _, .int kd, .v (.int _ n) => K (S.put dst (.v (.int kd (kd.wrap n))))
    | .str, .slice e, .v (.string t) => req ((T.at e).k.isInt .u8) <| ∀ (cap b : Nat), t.size ≤ cap → S.m b = none → K ({ S with m := S.m.set b (bytesObj t cap e) }.put dst (.v (.slice (some ⟨b, 0, none⟩) t.size cap)))
    | .slice e, .str, .v (.slice A n _) => req ((T.at e).k.isInt .u8) <| ∃ l : List UInt8, l.length = n ∧ ((A = none ∧ l = []) ∨ ∃ p, A = some p ∧ S.m.holds p (byteVals l)) ∧ K (S.put dst (.v (.string ⟨l.toArray⟩)))
    | .int _, .int _, _ => False
    | .slice _, .str, _ => False
    | .str, .slice _, _ => False
    | _, _, .v z => RunP P (Go.convert s d z) S.m fun v m' => K ({ S with m := m' }.put dst (.v v))
    | _, _, _ => False
  | .makeFunc fn first cap => evsK S first.toList fun fs => evsK S cap.toList fun cs => K (S.put dst (.v (.func fn fs.toArray cs.toArray)))
  | .makeSlice t l c => evK S l fun x => evK S c fun y => match (T.at t).k, x, y with
    | .slice e, .v (.int .i64 n), .v (.int .i64 c) => req (Nat.blt 0 (T.at e).size) <| 0 ≤ n ∧ n ≤ c ∧ c ≤ 9223372036854775807 ∧ (T.at e).bytes * c ≤ 2 ^ 48 ∧
        ∀ b, S.m b = none → K ({ S with m := S.m.set b (.cells (zerosOf T e c.toNat).list.toArray e (0, 0)) }.put dst (.v (.slice (some ⟨b, 0, none⟩) n.toNat c.toNat)))
    | _, _, _ => False
  | .slice t x lo hi none => evK S x fun v => match (T.at t).k, v with
    | .slice e, .v (.slice A n c) => req (Nat.blt 0 (T.at e).size) <| optK S hi n fun h => optK S lo 0 fun l =>
        0 ≤ l ∧ l ≤ h ∧ h ≤ c ∧ K (S.put dst (.v (.slice (if c = l.toNat then A else A.map fun p => p.add (l.toNat * (T.at e).size)) (h.toNat - l.toNat) (c - l.toNat))))
    | .str, .v (.string s) => optK S hi s.size fun h => optK S lo 0 fun l =>
        0 ≤ l ∧ l ≤ h ∧ h ≤ s.size ∧ K (S.put dst (.v (.string (s.extract l.toNat h.toNat))))
    | .arr n e, .v (.pointer (some p)) => req (Nat.blt 0 (T.at e).size) <| optK S hi n fun h => optK S lo 0 fun l =>
        0 ≤ l ∧ l ≤ h ∧ h ≤ n ∧ K (S.put dst (.v (.slice (some (if n = l.toNat then p else p.add (l.toNat * (T.at e).size))) (h.toNat - l.toNat) (n - l.toNat))))
    | _, _ => False
  | .fieldAddr s x f => evK S x fun v => match (T.at s).k with
    | .struct fs => match fs[f]? with
      | some (off, ft) => req (Nat.blt 0 (T.at ft).size) <| match v with
        | .loc i o => K (S.put dst (.loc i (o + off)))
        | .v (.pointer (some p)) => K (S.put dst (.v (.pointer (some (p.add off)))))
        | _ => False
      | none => False
    | _ => False
  | .field s x f => evK S x fun v => match (T.at s).k, v with
    | .struct fs, .v (.agg cs) => match fs[f]? with
      | some (off, ft) => match (T.at ft).k with
        | .struct _ => K (S.put dst (.v (.agg (cs.extract off (off + (T.at ft).size)))))
        | .arr _ _ | .other => False
        | _ => match cs.toList[off]? with
          | some c => K (S.put dst (.v c))
          | none => False
      | none => False
    | _, _ => False
  | .indexAddr t x i => evK S x fun v => evK S i fun iv => match iv with
    | .v (.int _ j) => match (T.at t).k, v with
      | .arr n e, .loc b o => req (Nat.blt 0 (T.at e).size) <| 0 ≤ j ∧ j < n ∧ K (S.put dst (.loc b (o + j.toNat * (T.at e).size)))
      | .arr n e, .v (.pointer (some p)) => req (Nat.blt 0 (T.at e).size) <| 0 ≤ j ∧ j < n ∧ K (S.put dst (.v (.pointer (some (p.add (j.toNat * (T.at e).size))))))
      | .slice e, .v (.slice A n _) => req (Nat.blt 0 (T.at e).size) <| ∃ p, A = some p ∧ 0 ≤ j ∧ j < n ∧ K (S.put dst (.v (.pointer (some (p.add (j.toNat * (T.at e).size))))))
      | _, _ => False
    | _ => False
  | .index t x i => evK S x fun v => evK S i fun iv => match iv with
    | .v (.int _ j) => match (T.at t).k, v with
      | .arr n e, .ints kd xs => req (Nat.beq (T.at e).size 1) <| req ((T.at e).k.isInt kd) <| 0 ≤ j ∧ j < n ∧ j.toNat < xs.length ∧ K (S.put dst (.v (.int kd (xs.getD j.toNat 0))))
      | .arr n e, .bools xs => req (Nat.beq (T.at e).size 1) <| req (T.at e).k.isBool <| 0 ≤ j ∧ j < n ∧ j.toNat < xs.length ∧ K (S.put dst (.v (.bool (xs.getD j.toNat false))))
      | .arr n e, .v (.agg cs) => req (Nat.blt 0 (T.at e).size) <| 0 ≤ j ∧ j < n ∧ match (T.at e).k with
        | .struct _ => K (S.put dst (.v (.agg (cs.extract (j.toNat * (T.at e).size) (j.toNat * (T.at e).size + (T.at e).size)))))
        | .arr _ _ => K (S.put dst (.v (.agg (cs.extract (j.toNat * (T.at e).size) (j.toNat * (T.at e).size + (T.at e).size)))))
        | .other => False
        | _ => ∃ c, cs.toList[j.toNat * (T.at e).size]? = some c ∧ K (S.put dst (.v c))
      | .str, .v (.string s) => 0 ≤ j ∧ j < s.size ∧ K (S.put dst (.v (.int .u8 (bt s j))))
      | _, _ => False
    | _ => False
  | .extract x i => evK S x fun v => match v with
    | .v (.tuple vs) => match vs.toList[i]? with
      | some u => normK T ty u fun y => K (S.put dst y)
      | none => False
    | _ => False
  | .call c => callK P T B dst ty c S K
  | op => req (genB op) <| evsK S (opArgs op) fun vs => RunP P (opRun ty op vs) S.m fun v m' => K ({ S with m := m' }.put dst (.v v))

noncomputable def vcOp (P : Program) (T : Tbl) (B pr : List Nat) (dst : Option Nat) (op : Op) (ty : Nat) (S : St) (K : St → Prop) : Prop := match S with
  | ⟨env, ls, m⟩ =>
    match op with
    | .move x | .assign x => evK (St.mk env ls m) x fun v => K ((St.mk env ls m).put dst v)
    | .pick c a b => evK (St.mk env ls m) c fun cv => match cv with
      | .v (.bool c) => evK (St.mk env ls m) a fun x => evK (St.mk env ls m) b fun y => pickK c x y fun v => K ((St.mk env ls m).put dst v)
      | _ => False
    | .alloc e => req (Nat.blt 0 (T.at e).size) <| newK pr dst (T.at e).zero e (St.mk env ls m) K
    | .box e x => evK (St.mk env ls m) x fun v => contentK v fun c => newK pr dst c e (St.mk env ls m) K
    | .build t parts => match (T.at t).k with
      | .struct fs => req (fs.all fun f => Nat.blt 0 (T.at f.2).size) <| fillK (St.mk env ls m) (fun i => (fs[i]?).map fun f => (f.1, (T.at f.2).size)) parts.toList (T.at t).zero.list fun l => K ((St.mk env ls m).put dst (.v (.agg l.toArray)))
      | .arr _ e => match (T.at e).k, (T.at t).zero with
        | .int kd, .ints kd' xs => req (IntKind.eqb kd kd') <| req (Nat.beq (T.at e).size 1) <| fillIntsK (St.mk env ls m) kd parts.toList xs fun l => K ((St.mk env ls m).put dst (.ints kd l))
        | _, _ => req (Nat.blt 0 (T.at e).size) <| fillK (St.mk env ls m) (fun i => some (i * (T.at e).size, (T.at e).size)) parts.toList (T.at t).zero.list fun l => K ((St.mk env ls m).put dst (.v (.agg l.toArray)))
      | _ => False
    | .buildSlice t len parts => match (T.at t).k with
      | .slice e => req (Nat.blt 0 (T.at e).size) <| req (Nat.ble (len * (T.at e).size) 16777216) <| fillK (St.mk env ls m) (fun i => some (i * (T.at e).size, (T.at e).size)) parts.toList (zerosOf T e len).list fun l =>
          ∀ b, m b = none → K ((St.mk env ls (m.set b (.cells l.toArray e (0, 0)))).put dst (.v (.slice (some ⟨b, 0, none⟩) len len)))
      | _ => False
    | .load t p => evK (St.mk env ls m) p fun x => match x with
      | .loc i off => match ls[i]? with
        | some c => ldLoc T c off t fun v => K ((St.mk env ls m).put dst v)
        | none => False
      | .v (.pointer (some p)) => ldT T m p t fun v => K ((St.mk env ls m).put dst v)
      | _ => False
    | .store t p v => req (Nat.blt 0 (T.at t).size) <| evK (St.mk env ls m) p fun x => evK (St.mk env ls m) v fun y => match x with
      | .loc i off => match ls[i]? with
        | some c => stLoc T c off t y fun c' => K ((St.mk env (ls.set i c') m).put dst (.v undef))
        | none => False
      | .v (.pointer (some p)) => stMem T m p t y fun m' => K ((St.mk env ls (m')).put dst (.v undef))
      | _ => False
    | .nilCheck x => evK (St.mk env ls m) x fun v => match v with
      | .v (.pointer q) => ptrK q (fun p => K ((St.mk env ls m).put dst (.v (.pointer (some p))))) False
      | .loc i off => K ((St.mk env ls m).put dst (.loc i off))
      | _ => False
    | .binOp op t x y _ => evK (St.mk env ls m) x fun u => evK (St.mk env ls m) y fun v => binK T op t u v fun r => K ((St.mk env ls m).put dst (.v r))
    | .unOp op _ x => evK (St.mk env ls m) x fun u => unK op u fun r => K ((St.mk env ls m).put dst (.v r))
    | .convert s d x => evK (St.mk env ls m) x fun u => match (T.at s).k, (T.at d).k, u with
      | .int _, .int kd, .v (.int _ n) => K ((St.mk env ls m).put dst (.v (.int kd (kd.wrap n))))
      | .str, .slice e, .v (.string t) => req ((T.at e).k.isInt .u8) <| ∀ (cap b : Nat), t.size ≤ cap → m b = none → K ((St.mk env ls (m.set b (bytesObj t cap e))).put dst (.v (.slice (some ⟨b, 0, none⟩) t.size cap)))
      | .slice e, .str, .v (.slice A n _) => req ((T.at e).k.isInt .u8) <| ∃ l : List UInt8, l.length = n ∧ ((A = none ∧ l = []) ∨ ∃ p, A = some p ∧ m.holds p (byteVals l)) ∧ K ((St.mk env ls m).put dst (.v (.string ⟨l.toArray⟩)))
      | .int _, .int _, _ => False
      | .slice _, .str, _ => False
      | .str, .slice _, _ => False
      | _, _, .v z => RunP P (Go.convert s d z) m fun v m' => K ((St.mk env ls m').put dst (.v v))
      | _, _, _ => False
    | .makeFunc fn first cap => evsK (St.mk env ls m) first.toList fun fs => evsK (St.mk env ls m) cap.toList fun cs => K ((St.mk env ls m).put dst (.v (.func fn fs.toArray cs.toArray)))
    | .makeSlice t l c => evK (St.mk env ls m) l fun x => evK (St.mk env ls m) c fun y => match (T.at t).k, x, y with
      | .slice e, .v (.int .i64 n), .v (.int .i64 c) => req (Nat.blt 0 (T.at e).size) <| 0 ≤ n ∧ n ≤ c ∧ c ≤ 9223372036854775807 ∧ (T.at e).bytes * c ≤ 2 ^ 48 ∧
          ∀ b, m b = none → K ((St.mk env ls (m.set b (.cells (zerosOf T e c.toNat).list.toArray e (0, 0)))).put dst (.v (.slice (some ⟨b, 0, none⟩) n.toNat c.toNat)))
      | _, _, _ => False
    | .slice t x lo hi none => evK (St.mk env ls m) x fun v => match (T.at t).k, v with
      | .slice e, .v (.slice A n c) => req (Nat.blt 0 (T.at e).size) <| optK (St.mk env ls m) hi n fun h => optK (St.mk env ls m) lo 0 fun l =>
          0 ≤ l ∧ l ≤ h ∧ h ≤ c ∧ K ((St.mk env ls m).put dst (.v (.slice (if c = l.toNat then A else A.map fun p => p.add (l.toNat * (T.at e).size)) (h.toNat - l.toNat) (c - l.toNat))))
      | .str, .v (.string s) => optK (St.mk env ls m) hi s.size fun h => optK (St.mk env ls m) lo 0 fun l =>
          0 ≤ l ∧ l ≤ h ∧ h ≤ s.size ∧ K ((St.mk env ls m).put dst (.v (.string (s.extract l.toNat h.toNat))))
      | .arr n e, .v (.pointer (some p)) => req (Nat.blt 0 (T.at e).size) <| optK (St.mk env ls m) hi n fun h => optK (St.mk env ls m) lo 0 fun l =>
          0 ≤ l ∧ l ≤ h ∧ h ≤ n ∧ K ((St.mk env ls m).put dst (.v (.slice (some (if n = l.toNat then p else p.add (l.toNat * (T.at e).size))) (h.toNat - l.toNat) (n - l.toNat))))
      | _, _ => False
    | .fieldAddr s x f => evK (St.mk env ls m) x fun v => match (T.at s).k with
      | .struct fs => match fs[f]? with
        | some (off, ft) => req (Nat.blt 0 (T.at ft).size) <| match v with
          | .loc i o => K ((St.mk env ls m).put dst (.loc i (o + off)))
          | .v (.pointer (some p)) => K ((St.mk env ls m).put dst (.v (.pointer (some (p.add off)))))
          | _ => False
        | none => False
      | _ => False
    | .field s x f => evK (St.mk env ls m) x fun v => match (T.at s).k, v with
      | .struct fs, .v (.agg cs) => match fs[f]? with
        | some (off, ft) => match (T.at ft).k with
          | .struct _ => K ((St.mk env ls m).put dst (.v (.agg (cs.extract off (off + (T.at ft).size)))))
          | .arr _ _ | .other => False
          | _ => match cs.toList[off]? with
            | some c => K ((St.mk env ls m).put dst (.v c))
            | none => False
        | none => False
      | _, _ => False
    | .indexAddr t x i => evK (St.mk env ls m) x fun v => evK (St.mk env ls m) i fun iv => match iv with
      | .v (.int _ j) => match (T.at t).k, v with
        | .arr n e, .loc b o => req (Nat.blt 0 (T.at e).size) <| 0 ≤ j ∧ j < n ∧ K ((St.mk env ls m).put dst (.loc b (o + j.toNat * (T.at e).size)))
        | .arr n e, .v (.pointer (some p)) => req (Nat.blt 0 (T.at e).size) <| 0 ≤ j ∧ j < n ∧ K ((St.mk env ls m).put dst (.v (.pointer (some (p.add (j.toNat * (T.at e).size))))))
        | .slice e, .v (.slice A n _) => req (Nat.blt 0 (T.at e).size) <| ∃ p, A = some p ∧ 0 ≤ j ∧ j < n ∧ K ((St.mk env ls m).put dst (.v (.pointer (some (p.add (j.toNat * (T.at e).size))))))
        | _, _ => False
      | _ => False
    | .index t x i => evK (St.mk env ls m) x fun v => evK (St.mk env ls m) i fun iv => match iv with
      | .v (.int _ j) => match (T.at t).k, v with
        | .arr n e, .ints kd xs => req (Nat.beq (T.at e).size 1) <| req ((T.at e).k.isInt kd) <| 0 ≤ j ∧ j < n ∧ j.toNat < xs.length ∧ K ((St.mk env ls m).put dst (.v (.int kd (xs.getD j.toNat 0))))
        | .arr n e, .bools xs => req (Nat.beq (T.at e).size 1) <| req (T.at e).k.isBool <| 0 ≤ j ∧ j < n ∧ j.toNat < xs.length ∧ K ((St.mk env ls m).put dst (.v (.bool (xs.getD j.toNat false))))
        | .arr n e, .v (.agg cs) => req (Nat.blt 0 (T.at e).size) <| 0 ≤ j ∧ j < n ∧ match (T.at e).k with
          | .struct _ => K ((St.mk env ls m).put dst (.v (.agg (cs.extract (j.toNat * (T.at e).size) (j.toNat * (T.at e).size + (T.at e).size)))))
          | .arr _ _ => K ((St.mk env ls m).put dst (.v (.agg (cs.extract (j.toNat * (T.at e).size) (j.toNat * (T.at e).size + (T.at e).size)))))
          | .other => False
          | _ => ∃ c, cs.toList[j.toNat * (T.at e).size]? = some c ∧ K ((St.mk env ls m).put dst (.v c))
        | .str, .v (.string s) => 0 ≤ j ∧ j < s.size ∧ K ((St.mk env ls m).put dst (.v (.int .u8 (bt s j))))
        | _, _ => False
      | _ => False
    | .extract x i => evK (St.mk env ls m) x fun v => match v with
      | .v (.tuple vs) => match vs.toList[i]? with
        | some u => normK T ty u fun y => K ((St.mk env ls m).put dst y)
        | none => False
      | _ => False
    | .call c => callK P T B dst ty c (St.mk env ls m) K
    | op => req (genB op) <| evsK (St.mk env ls m) (opArgs op) fun vs => RunP P (opRun ty op vs) m fun v m' => K ((St.mk env ls m').put dst (.v v))

theorem vcOp_eq {P : Program} {T : Tbl} {B pr : List Nat} {dst : Option Nat} {op : Op} {ty : Nat} {S : St} {K : St → Prop} : vcOp P T B pr dst op ty S K = vcOpS P T B pr dst op ty S K := by cases S; rfl
/-! ### newer questions: memory is a name of its own behind what turns it (pr holds 99999) -/
def nwB : List Nat → Bool
  | [] => false
  | j :: r => bif Nat.beq j 99999 then true else nwB r
def newKF (pr : List Nat) (dst : Option Nat) (c : LC) (e : Nat) (S : St) (K : St → Prop) : Prop := match S with
  | ⟨env, ls, m⟩ =>
    match dst with
    | some d =>
      bif pr.contains d then K ((St.mk env (ls ++ [c]) m).put (some d) (.loc ls.length 0))
      else ∀ (b : Nat) (m2 : Mem), m b = none → m2 = m.set b (.cells c.list.toArray e (0, 0)) → K ((St.mk env ls m2).put (some d) (.v (.pointer (some ⟨b, 0, none⟩))))
    | none => False
theorem newKF_old {pr : List Nat} {dst : Option Nat} {c : LC} {e : Nat} {S : St} {K : St → Prop} (h : newKF pr dst c e S K) : newK pr dst c e S K := by
  cases S
  cases dst with
  | none => exact h
  | some d =>
    simp only [newKF, newK] at h ⊢
    cases hp : pr.contains d with
    | true => rw [hp] at h; exact h
    | false => rw [hp] at h; exact fun b hb => h b _ hb rfl
/-- What an append asks, of j elements behind n. -/
def AppOk (T : Tbl) (e : Nat) (m : Mem) (A : Option Addr) (n c : Nat) (B : Option Addr) (j : Nat) (news olds : List Value) : Prop :=
  news.length = j * (T.at e).size ∧ (j * (T.at e).size = 0 ∨ ∃ p, B = some p ∧ m.holds p news) ∧
  (n + j ≤ c → A = none ∨ ∃ p, A = some p ∧ m.room (p.add (n * (T.at e).size)) (j * (T.at e).size) ∧ oneCells news = true) ∧
  (c < n + j → Nat.blt 0 (T.at e).bytes = true ∧ Builtin.nextslicecap (n + j) c * (T.at e).bytes ≤ 2 ^ 48 ∧ olds.length = n * (T.at e).size ∧ ((n * (T.at e).size = 0 ∧ A = none) ∨ ∃ p, A = some p ∧ m.holds p olds))
/-- What it leaves. -/
def AppR (T : Tbl) (e : Nat) (m : Mem) (A : Option Addr) (n c j : Nat) (news olds : List Value) (A' : Option Addr) (c' : Nat) (m' : Mem) : Prop :=
  (n + j ≤ c ∧ A' = A ∧ c' = c ∧ ((A = none ∧ m' = m) ∨ ∃ p, A = some p ∧ m' = m.setCells (p.add (n * (T.at e).size)) 0 news)) ∨
  (c < n + j ∧ ∃ b, n + j ≤ c' ∧ m b = none ∧ A' = some ⟨b, 0, none⟩ ∧ m' = m.set b (.cells (olds ++ news ++ (zerosOf T e (c' - (n + j))).list).toArray e (0, 0)))
def ClearR (m : Mem) (A : Option Addr) (n : Nat) (zs : List Value) (m' : Mem) : Prop :=
  ((A = none ∨ n = 0) ∧ m' = m) ∨ ∃ p, A = some p ∧ 0 < n ∧ m' = m.setCells p 0 zs
def strApp (T : Tbl) (b : Builtin) (ts : List Nat) : Bool := match b, ts with
  | .append, [_, t] => match (T.at t).k with
    | .str => true
    | _ => false
  | _, _ => false
def builtinF (T : Tbl) (dst : Option Nat) (b : Builtin) (args : List Operand) (ts : List Nat) (S : St) (K : St → Prop) (old : Prop) : Prop := match S with
  | ⟨env, ls, m⟩ =>
    match b, args, ts with
      | .append, [o, o'], [t, t'] => evK (St.mk env ls m) o fun x => evK (St.mk env ls m) o' fun y => match (T.at t).k, (T.at t').k, x, y with
        | .slice e, .slice _, .v (.slice A n c), .v (.slice B j _) => req (Nat.blt 0 (T.at e).size) <|
          ∃ news olds : List Value, AppOk T e m A n c B j news olds ∧ ∀ (A' : Option Addr) (c' : Nat) (m2 : Mem), AppR T e m A n c j news olds A' c' m2 → K ((St.mk env ls m2).put dst (.v (.slice A' (n + j) c')))
        | _, _, _, _ => False
      | .copy, [o, o'], [t, t'] => evK (St.mk env ls m) o fun x => evK (St.mk env ls m) o' fun y => match (T.at t).k, (T.at t').k, x, y with
        | .slice e, .slice _, .v (.slice A n _), .v (.slice B j _) => req (Nat.blt 0 (T.at e).size) <| 
          ∃ news : List Value, news.length = min j n * (T.at e).size ∧ (min j n * (T.at e).size = 0 ∨ ∃ p q, A = some p ∧ B = some q ∧ m.holds q news ∧ m.room p (min j n * (T.at e).size) ∧ oneCells news = true) ∧
            ∀ m2 : Mem, ptrK A (fun p => m2 = m.setCells p 0 news) (m2 = m) → K ((St.mk env ls m2).put dst (.v (.int .i64 (min j n : Nat))))
        | _, _, _, _ => False
      | .clear, [o], [t] => evK (St.mk env ls m) o fun x => match (T.at t).k, x with
        | .slice e, .v (.slice A n _) => req (Nat.blt 0 (T.at e).size) <| req (oneCells (T.at e).zero.list) <|
          (∀ p, A = some p → 0 < n → m.room p (n * (T.at e).size)) ∧ ∀ m2 : Mem, ClearR m A n (zerosOf T e n).list m2 → K ((St.mk env ls m2).put dst (.v (.tuple #[])))
        | _, _ => False
      | _, _, _ => old
noncomputable def vcOpF (P : Program) (T : Tbl) (B pr : List Nat) (dst : Option Nat) (op : Op) (ty : Nat) (S : St) (K : St → Prop) : Prop := match S with
  | ⟨env, ls, m⟩ =>
    match op with
    | .alloc e => req (Nat.blt 0 (T.at e).size) <| newKF pr dst (T.at e).zero e (St.mk env ls m) K
    | .box e x => evK (St.mk env ls m) x fun v => contentK v fun c => newKF pr dst c e (St.mk env ls m) K
    | .buildSlice t len parts => match (T.at t).k with
      | .slice e => req (Nat.blt 0 (T.at e).size) <| req (Nat.ble (len * (T.at e).size) 16777216) <| fillK (St.mk env ls m) (fun i => some (i * (T.at e).size, (T.at e).size)) parts.toList (zerosOf T e len).list fun l =>
          ∀ (b : Nat) (m2 : Mem), m b = none → m2 = m.set b (.cells l.toArray e (0, 0)) → K ((St.mk env ls m2).put dst (.v (.slice (some ⟨b, 0, none⟩) len len)))
      | _ => False
    | .store t p v => req (Nat.blt 0 (T.at t).size) <| evK (St.mk env ls m) p fun x => evK (St.mk env ls m) v fun y => match x with
      | .loc i off => match ls[i]? with
        | some c => stLoc T c off t y fun c' => K ((St.mk env (ls.set i c') m).put dst (.v undef))
        | none => False
      | .v (.pointer (some p)) => stMem T m p t y fun m' => ∀ m2 : Mem, m2 = m' → K ((St.mk env ls m2).put dst (.v undef))
      | _ => False
    | .convert s d x => evK (St.mk env ls m) x fun u => match (T.at s).k, (T.at d).k, u with
      | .int _, .int kd, .v (.int _ n) => K ((St.mk env ls m).put dst (.v (.int kd (kd.wrap n))))
      | .str, .slice e, .v (.string t) => req ((T.at e).k.isInt .u8) <| ∀ (cap b : Nat) (m2 : Mem), t.size ≤ cap → m b = none → m2 = m.set b (bytesObj t cap e) → K ((St.mk env ls m2).put dst (.v (.slice (some ⟨b, 0, none⟩) t.size cap)))
      | .slice e, .str, .v (.slice A n _) => req ((T.at e).k.isInt .u8) <| ∃ l : List UInt8, l.length = n ∧ ((A = none ∧ l = []) ∨ ∃ p, A = some p ∧ m.holds p (byteVals l)) ∧ K ((St.mk env ls m).put dst (.v (.string ⟨l.toArray⟩)))
      | .int _, .int _, _ => False
      | .slice _, .str, _ => False
      | .str, .slice _, _ => False
      | _, _, .v z => RunP P (Go.convert s d z) m fun v m' => K ((St.mk env ls m').put dst (.v v))
      | _, _, _ => False
    | .makeSlice t l c => evK (St.mk env ls m) l fun x => evK (St.mk env ls m) c fun y => match (T.at t).k, x, y with
      | .slice e, .v (.int .i64 n), .v (.int .i64 c) => req (Nat.blt 0 (T.at e).size) <| 0 ≤ n ∧ n ≤ c ∧ c ≤ 9223372036854775807 ∧ (T.at e).bytes * c ≤ 2 ^ 48 ∧
          ∀ (b : Nat) (m2 : Mem), m b = none → m2 = m.set b (.cells (zerosOf T e c.toNat).list.toArray e (0, 0)) → K ((St.mk env ls m2).put dst (.v (.slice (some ⟨b, 0, none⟩) n.toNat c.toNat)))
      | _, _, _ => False
    | .call c => match c.callee with
      | .builtin b => bif strApp T b c.argTypes.toList then callK P T B dst ty c (St.mk env ls m) K else builtinF T dst b c.args.toList c.argTypes.toList (St.mk env ls m) K (callK P T B dst ty c (St.mk env ls m) K)
      | _ => callK P T B dst ty c (St.mk env ls m) K
    | op => vcOp P T B pr dst op ty (St.mk env ls m) K
theorem evK_mono {S : St} {o : Operand} {k k' : AV → Prop} (h : evK S o k) (hk : ∀ x, k x → k' x) : evK S o k' := by
  cases o with
  | tmp t =>
    simp only [evK] at h ⊢
    generalize S.env = E at h ⊢
    induction E with
    | nil => exact h
    | cons a r ih =>
      obtain ⟨i, x⟩ := a
      simp only [lkK] at h ⊢
      cases hb : Nat.beq i t with
      | true => rw [hb] at h; exact hk _ h
      | false => rw [hb] at h; exact ih h
  | const v => exact hk _ h
  | global g => exact hk _ h
  | func f => exact hk _ h
theorem req_mono {b : Bool} {A A' : Prop} (h : req b A) (hk : A → A') : req b A' := by
  cases b
  · exact h
  · exact hk h
theorem stMem_mono {T : Tbl} {m : Mem} {p : Addr} {t : Nat} {x : AV} {k k' : Mem → Prop} (h : stMem T m p t x k) (hk : ∀ m, k m → k' m) : stMem T m p t x k' := by
  cases x with
  | v v => cases v <;> exact req_mono h fun h => req_mono h fun h => ⟨h.1, hk _ h.2⟩
  | ints kd xs => exact ⟨h.1, h.2.1, hk _ h.2.2⟩
  | bools xs => exact ⟨h.1, h.2.1, hk _ h.2.2⟩
  | loc i off => exact h
theorem contentK_mono {x : AV} {k k' : LC → Prop} (h : contentK x k) (hk : ∀ c, k c → k' c) : contentK x k' := by
  cases x with
  | v v => cases v <;> exact hk _ h
  | ints kd xs => exact hk _ h
  | bools xs => exact hk _ h
  | loc i off => exact h
theorem fillK_mono {S : St} {place : Nat → Option (Nat × Nat)} {k k' : List Value → Prop} (hk : ∀ l, k l → k' l) : ∀ {ps : List (Nat × Operand)} {l : List Value}, fillK S place ps l k → fillK S place ps l k'
  | [], _, h => hk _ h
  | (i, o) :: r, l, h => by
    unfold fillK at h ⊢
    cases hp : place i with
    | none => rw [hp] at h; exact h
    | some a =>
      rw [hp] at h
      refine evK_mono h fun x hx => ?_
      unfold valK at hx ⊢
      split at hx <;> first | exact hx | exact req_mono hx fun h => req_mono h fun h => fillK_mono hk h
theorem builtinF_old {P : Program} {T : Tbl} {B : List Nat} {dst : Option Nat} {ty : Nat} {c : Call} {b : Builtin} {S : St} {K : St → Prop} (hc : c.callee = .builtin b) (h : builtinF T dst b c.args.toList c.argTypes.toList S K (callK P T B dst ty c S K)) : callK P T B dst ty c S K := by
  obtain ⟨env, ls, m⟩ := S
  unfold builtinF at h
  simp only at h
  split at h
  · rename_i o o' t t' ha ht
    simp only [callK, hc, ha, ht]
    refine evK_mono h fun x hx => evK_mono hx fun y hy => ?_
    split at hy
    · rename_i q1 q2
      simp only [q1, q2]
      refine req_mono hy fun ⟨news, olds, ⟨h1, h2, h3, h4⟩, hk⟩ => ⟨news, h1, h2, fun hle => ?_, fun hlt => ?_⟩
      · rcases h3 hle with hA | ⟨p, hA, h5, h6⟩
        · exact .inr ⟨hA, hk _ _ _ (.inl ⟨hle, rfl, rfl, .inl ⟨hA, rfl⟩⟩)⟩
        · exact .inl ⟨p, hA, h5, h6, hk _ _ _ (.inl ⟨hle, rfl, rfl, .inr ⟨p, hA, rfl⟩⟩)⟩
      · obtain ⟨q1, q2, q3, q4⟩ := h4 hlt
        rw [q1]
        exact ⟨q2, olds, q3, q4, fun cap b hcap hb => hk _ _ _ (.inr ⟨hlt, b, hcap, hb, rfl, rfl⟩)⟩
    · exact hy.elim
  · rename_i o o' t t' ha ht
    simp only [callK, hc, ha, ht]
    refine evK_mono h fun x hx => evK_mono hx fun y hy => ?_
    split at hy
    · refine req_mono hy fun ⟨news, h1, h2, hk⟩ => ⟨news, h1, h2, ?_⟩
      unfold ptrK
      split <;> exact hk _ rfl
    · exact hy
  · rename_i o t ha ht
    simp only [callK, hc, ha, ht]
    refine evK_mono h fun x hx => ?_
    split at hx
    · refine req_mono hx fun h => req_mono h fun ⟨h1, hk⟩ => ⟨fun h0 => hk _ (.inl ⟨h0, rfl⟩), fun p hp h0 => ⟨h1 p hp h0, hk _ (.inr ⟨p, hp, h0, rfl⟩)⟩⟩
    · exact hx
  · exact h
theorem vcOpF_old {P : Program} {T : Tbl} {B pr : List Nat} {dst : Option Nat} {op : Op} {ty : Nat} {S : St} {K : St → Prop} (h : vcOpF P T B pr dst op ty S K) : vcOp P T B pr dst op ty S K := by
  obtain ⟨env, ls, m⟩ := S
  unfold vcOpF at h
  simp only at h
  split at h
  · exact req_mono h newKF_old
  · exact evK_mono h fun x hx => contentK_mono hx fun c => newKF_old
  · unfold vcOp
    try simp only
    split at h
    · rename_i ht
      try simp only [ht]
      exact req_mono h fun h => req_mono h fun h => fillK_mono (fun l hl b hb => hl b _ hb rfl) h
    · exact h.elim
  · unfold vcOp
    try simp only
    refine req_mono h fun h => evK_mono h fun x hx => evK_mono hx fun y hy => ?_
    split at hy
    · exact hy
    · exact stMem_mono hy fun m hm => hm m rfl
    · exact hy
  · unfold vcOp
    try simp only
    refine evK_mono h fun u hu => ?_
    split at hu
    · exact hu
    · exact req_mono hu fun h cap b h1 h2 => h cap b _ h1 h2 rfl
    · exact hu
    all_goals exact hu
  · unfold vcOp
    try simp only
    refine evK_mono h fun x hx => evK_mono hx fun y hy => ?_
    split at hy
    · exact req_mono hy fun ⟨h1, h2, h3, h4, hk⟩ => ⟨h1, h2, h3, h4, fun b hb => hk b _ hb rfl⟩
    · exact hy
  · rename_i c
    unfold vcOp
    try simp only
    split at h
    · rename_i b hb
      cases hs : strApp T b c.argTypes.toList with
      | true => rw [hs] at h; exact h
      | false => rw [hs] at h; exact builtinF_old hb h
    · exact h
  · exact h
noncomputable def vcOpN (P : Program) (T : Tbl) (B pr : List Nat) (dst : Option Nat) (op : Op) (ty : Nat) (S : St) (K : St → Prop) : Prop := match nwB pr with
  | true => vcOpF P T B pr dst op ty S K
  | false => vcOp P T B pr dst op ty S K
theorem vcOpN_old {P : Program} {T : Tbl} {B pr : List Nat} {dst : Option Nat} {op : Op} {ty : Nat} {S : St} {K : St → Prop} (h : vcOpN P T B pr dst op ty S K) : vcOp P T B pr dst op ty S K := by
  unfold vcOpN at h
  split at h
  · exact vcOpF_old h
  · exact h
/-- Operations, in the text's order. -/
noncomputable def opStep (P : Program) (T : Tbl) (B pr : List Nat) (ops : List Oper) (o : Oper) (ih : St → (St → Prop) → Prop) (S : St) (K : St → Prop) : Prop := match o, S with
  | ⟨dst, op, ty, _, _, guard⟩, ⟨env, ls, m⟩ => match guard with
    | none => vcOpN P T B pr dst op ty ⟨env, ls, m⟩ fun S' => ih S' K
    | some (j, want) => match (ops[j]?).bind (·.dst) with
      | none => False
      | some d => lkK env d fun x => match x with
        | .v (.bool b) => brk (b == want) (vcOpN P T B pr dst op ty ⟨(d, .v (.bool want)) :: env, ls, m⟩ fun S' => ih S' K)
            (ih (St.put ⟨(d, .v (.bool (!want))) :: env, ls, m⟩ dst (.v undef)) K)
        | .v (.tuple _) => ih (St.put ⟨env, ls, m⟩ dst (.v undef)) K
        | _ => False
noncomputable def vcOps (P : Program) (T : Tbl) (B pr : List Nat) (ops : List Oper) (l : List Oper) : St → (St → Prop) → Prop :=
  List.rec (motive := fun _ => St → (St → Prop) → Prop) (fun S K => K S) (fun o _ ih => opStep P T B pr ops o ih) l
/-- What a region that draws its order may do ahead of its tail: it reads, and calls what leaves memory as it was. -/
def quietKind (T : Tbl) : Op → Bool
  | .convert s d _ => match (T.at s).k, (T.at d).k with
    | .int _, .int _ => true
    | .slice _, .str => true
    | _, _ => false
  | .move _ | .assign _ | .build .. | .pick .. | .nilCheck _ | .binOp .. | .unOp .. | .fieldAddr .. | .field .. | .indexAddr .. | .index .. | .extract .. | .load .. | .slice .. | .makeFunc .. => true
  | _ => false
noncomputable def vcQS (P : Program) (T : Tbl) (B pr : List Nat) (dst : Option Nat) (op : Op) (ty : Nat) (S : St) (K : St → Prop) : Prop :=
  match op with
  | .call c => match c.callee with
    | .value f => evK S f fun x => match x with
      | .v (.func (.func g) first cap) => req (B.contains g) <| evsK S c.args.toList fun vs =>
          ∃ v, FCalls P g (first.toList ++ vs ++ cap.toList) S.m (fun u m' => u = v ∧ m' = S.m) ∧ normK T ty v fun y => K (S.put dst y)
      | _ => False
    | .builtin b => req (quietBuiltin b) <| callK P T B dst ty c S K
    | _ => False
  | op => req (quietKind T op) <| vcOp P T B pr dst op ty S K
noncomputable def vcQ (P : Program) (T : Tbl) (B pr : List Nat) (dst : Option Nat) (op : Op) (ty : Nat) (S : St) (K : St → Prop) : Prop := match S with
  | ⟨env, ls, m⟩ =>
    match op with
    | .call c => match c.callee with
      | .value f => evK (St.mk env ls m) f fun x => match x with
        | .v (.func (.func g) first cap) => req (B.contains g) <| evsK (St.mk env ls m) c.args.toList fun vs =>
            ∃ v, FCalls P g (first.toList ++ vs ++ cap.toList) m (fun u m' => u = v ∧ m' = m) ∧ normK T ty v fun y => K ((St.mk env ls m).put dst y)
        | _ => False
      | .builtin b => req (quietBuiltin b) <| callK P T B dst ty c (St.mk env ls m) K
      | _ => False
    | op => req (quietKind T op) <| vcOp P T B pr dst op ty (St.mk env ls m) K
theorem vcQ_eq {P : Program} {T : Tbl} {B pr : List Nat} {dst : Option Nat} {op : Op} {ty : Nat} {S : St} {K : St → Prop} : vcQ P T B pr dst op ty S K = vcQS P T B pr dst op ty S K := by cases S; rfl
noncomputable def opStepQ (P : Program) (T : Tbl) (B pr : List Nat) (ops : List Oper) (o : Oper) (ih : St → (St → Prop) → Prop) (S : St) (K : St → Prop) : Prop := match o, S with
  | ⟨dst, op, ty, _, _, guard⟩, ⟨env, ls, m⟩ => match guard with
    | none => vcQ P T B pr dst op ty ⟨env, ls, m⟩ fun S' => ih S' K
    | some (j, want) => match (ops[j]?).bind (·.dst) with
      | none => False
      | some d => lkK env d fun x => match x with
        | .v (.bool b) => brk (b == want) (vcQ P T B pr dst op ty ⟨(d, .v (.bool want)) :: env, ls, m⟩ fun S' => ih S' K)
            (ih (St.put ⟨(d, .v (.bool (!want))) :: env, ls, m⟩ dst (.v undef)) K)
        | .v (.tuple _) => ih (St.put ⟨env, ls, m⟩ dst (.v undef)) K
        | _ => False
noncomputable def vcQs (P : Program) (T : Tbl) (B pr : List Nat) (ops : List Oper) (l : List Oper) : St → (St → Prop) → Prop :=
  List.rec (motive := fun _ => St → (St → Prop) → Prop) (fun S K => K S) (fun o _ ih => opStepQ P T B pr ops o ih) l
/-- What is known may be forgotten: fewer slots, fewer boxes, less memory. -/
def St.le (S S' : St) : Prop := (∀ i x, lk S'.env i = some x → lk S.env i = some x) ∧ (∃ l, S.ls = S'.ls ++ l) ∧ (∀ b o, S'.m b = some o → S.m b = some o) ∧ (∀ i x, lk S'.env i = some x → match x with | .loc j _ => j < S'.ls.length | _ => True)
/-- A loop: an invariant and a measure. -/
@[irreducible] def LoopP (f : (Exit → St → Prop) → St → Prop) (K : Exit → St → Prop) (S : St) : Prop :=
  ∃ (σ : Type) (st : σ → St) (J : σ → Prop) (μ : σ → Nat), (∃ s, S.le (st s) ∧ J s) ∧ ∀ s, J s → f (fun e S'' => match e with | .normal => ∃ s1, S''.le (st s1) ∧ J s1 ∧ μ s1 < μ s | e => K e S'') (st s)
/-- An order in which a region that draws is told of: what may be taken first (bl: who waits for it), or each that can come up. -/
inductive Sched where
  | done
  | one (i : Nat) (bl : List Nat) (s : Sched)
  | fork (i : Nat) (s t : Sched)
  | stop
/-- Where a region's tail begins; or its order. -/
inductive DE where
  | n (k : Nat)
  | s (t : Sched)
instance {k : Nat} : OfNat DE k := ⟨.n k⟩
def quietOp (T : Tbl) : Op → Bool
  | .call c => match c.callee with
    | .builtin b => quietBuiltin b
    | _ => false
  | op => quietKind T op
noncomputable def stepX (P : Program) (T : Tbl) (B pr : List Nat) (ops : List Oper) (i : Nat) (ih : St → (St → Prop) → Prop) (S : St) (K : St → Prop) : Prop :=
  match ops[i]? with
  | some o => bif quietOp T o.op then opStepQ P T B pr ops o ih S K else opStep P T B pr ops o ih S K
  | none => False
noncomputable def vcSched (P : Program) (T : Tbl) (B pr : List Nat) (ops : List Oper) (s : Sched) : St → (St → Prop) → Prop :=
  Sched.rec (motive := fun _ => St → (St → Prop) → Prop) (fun S K => K S) (fun i _ _ ih => stepX P T B pr ops i ih)
    (fun i _ _ ihs iht S K => stepX P T B pr ops i ihs S K ∧ iht S K) (fun _ _ => True) s
def drawAt : List (Nat × DE) → Nat → Option DE
  | [], _ => none
  | (i, n) :: r, id => bif Nat.beq i id then some n else drawAt r id

/-! ### a range over a function -/
def hasB : List Nat → Nat → Bool
  | [], _ => false
  | j :: r, i => bif Nat.beq j i then true else hasB r i
def plainEnvG (seen : List Nat) : Env → Env
  | [] => []
  | (i, x) :: r => match x with
    | .loc _ _ => plainEnvG (i :: seen) r
    | x => bif hasB seen i then plainEnvG seen r else (i, x) :: plainEnvG seen r
/-- The entries that are no boxes. -/
def plainEnv (E : Env) : Env := plainEnvG [] E
def parEnv : List Nat → List Value → Env → Env
  | p :: ps, v :: vs, E => parEnv ps vs ((p, .v v) :: E)
  | _, _, E => E
def Mem.del (m : Mem) (l : Nat) : Mem := fun b => if b = l then none else m b
/-- The jump that a round's end leaves behind. -/
def jumpOf : Exit → Option Code
  | .ret => some .ret
  | .exit id => some (.exit id)
  | _ => none
/-- What a call of yield leaves: R, by the way in which the round is left; the loop's record beside it. -/
def roundR (l : Nat) (rec : Loop) (R : Exit → Mem → Prop) (v : Value) (m2 : Mem) : Prop :=
  ∃ m3 : Mem, m3 l = none ∧ ((v = .bool true ∧ m2 = m3.set l (.loop rec) ∧ R .normal m3) ∨
    (v = .bool false ∧ ∃ e c, jumpOf e = some c ∧ m2 = m3.set l (.loop { rec with state := .done, pending := some c }) ∧ R e m3))
def roundK (R : Exit → Mem → Prop) (e : Exit) (S : St) : Prop :=
  match e with
  | .normal => R .normal S.m
  | .ret => R .ret S.m
  | .exit id => R (.exit id) S.m
  | _ => False
def pendK (K : Exit → St → Prop) (c : Option Code) (S : St) : Prop :=
  match c with
  | none => K .normal S
  | some .ret => K .ret S
  | some (.exit id) => K (.exit id) S
  | _ => False
@[irreducible] def RangeP (P : Program) (f : Nat) (first cap : List Value) (ps : List Nat) (X Y : (Exit → St → Prop) → St → Prop) (K : Exit → St → Prop) (S : St) : Prop :=
  ∀ (l : Nat) (rec : Loop), S.m l = none → rec.state = .ready → rec.pending = none →
    (∀ (vals : List Value) (m1 : Mem) (R : Exit → Mem → Prop), m1 l = some (.loop rec) → vals.length = ps.length →
      X (fun e S1 => match e with | .normal => Y (roundK R) S1 | _ => False) ⟨parEnv ps vals (plainEnv S.env), [], m1.del l⟩ → YCalls P l vals m1 (roundR l rec R)) →
    FCalls P f (first ++ [.func (.yield l) #[] #[]] ++ cap) (S.m.set l (.loop rec)) fun _ m' => ∃ st pend, st ≠ .busy ∧ m' l = some (.loop { rec with state := st, pending := pend }) ∧ pendK K pend ⟨S.env, S.ls, m'.del l⟩
/-- Where ways meet: what is to be known behind x may be said anew. -/
@[irreducible] def JoinP (X Y : (Exit → St → Prop) → St → Prop) (K : Exit → St → Prop) (S : St) : Prop :=
  ∃ J : St → Prop, X (fun e S' => match e with | .normal => ∃ S1, S'.le S1 ∧ J S1 | e => K e S') S ∧ ∀ S1, J S1 → Y K S1
def firstRegion : Code → Option Nat
  | .region id _ _ => some id
  | .seq x _ => firstRegion x
  | .cond _ x _ => firstRegion x
  | .block _ x => firstRegion x
  | .loop x => firstRegion x
  | _ => none
/-- DR holds 100000 + the first region within a cond's first branch: its ways meet by JoinP. -/
def joinAt (DR : List (Nat × DE)) : Code → Bool
  | .cond _ a _ => match firstRegion a with
    | some id => match drawAt DR (100000 + id) with
      | some _ => true
      | none => false
    | none => false
  | .seq _ y => joinAt DR y
  | .block _ y => joinAt DR y
  | _ => false
/-- The code. DR: of each region that draws its order, where its tail begins. -/
noncomputable def vc (P : Program) (T : Tbl) (B pr : List Nat) (DR : List (Nat × DE)) (c : Code) : (Exit → St → Prop) → St → Prop :=
  Code.rec (motive := fun _ => (Exit → St → Prop) → St → Prop)
    (fun K S => K .normal S)
    (fun id ops draw K S => match draw with
      | false => vcOps P T B pr ops.toList ops.toList S (K .normal)
      | true => match drawAt DR id with
        | some e => match e with
          | .n n => vcQs P T B pr ops.toList (ops.toList.take n) S fun S' => vcOps P T B pr ops.toList (ops.toList.drop n) S' (K .normal)
          | .s t => vcSched P T B pr ops.toList t S (K .normal)
        | none => False)
    (fun a _ x y K S => bif joinAt DR a then JoinP x y K S else x (fun e S' => match e with | .normal => y K S' | e => K e S') S)
    (fun c _ _ x y K S => evK S c fun v => match v with
      | .v (.bool b) => brk b (x K S) (y K S)
      | _ => False)
    (fun id _ x K S => x (fun e S' => match e with | .exit j => bif Nat.beq j id then K .normal S' else K (.exit j) S' | e => K e S') S)
    (fun _ x K S => LoopP x K S)
    (fun g ps _ _ x y K S => evK S g fun gv => match gv with
      | .v (.func (.func f) first cap) => req (B.contains f) <| RangeP P f first.toList cap.toList ps.toList x y K S
      | _ => False)
    (fun id K S => K (.exit id) S)
    (fun _ _ _ _ => False)
    (fun _ _ _ => False)
    (fun _ _ _ => False)
    (fun K S => K .ret S)
    (fun _ _ _ => False) c
section
variable {P : Program} {T : Tbl} {B pr : List Nat} {DR : List (Nat × DE)} {K : Exit → St → Prop} {S : St}
theorem vc_skip : vc P T B pr DR .skip K S = K .normal S := rfl
theorem vc_region {id : Nat} {ops : Array Oper} : vc P T B pr DR (.region id ops false) K S = vcOps P T B pr ops.toList ops.toList S (K .normal) := rfl
theorem vc_draw {id : Nat} {ops : Array Oper} : vc P T B pr DR (.region id ops true) K S = match drawAt DR id with
    | some e => match e with
      | .n n => vcQs P T B pr ops.toList (ops.toList.take n) S fun S' => vcOps P T B pr ops.toList (ops.toList.drop n) S' (K .normal)
      | .s t => vcSched P T B pr ops.toList t S (K .normal)
    | none => False := rfl
theorem vc_seq {x y : Code} : vc P T B pr DR (.seq x y) K S = bif joinAt DR x then JoinP (vc P T B pr DR x) (vc P T B pr DR y) K S else vc P T B pr DR x (fun e S' => match e with | .normal => vc P T B pr DR y K S' | e => K e S') S := rfl
theorem vc_cond {c : Operand} {x y : Code} : vc P T B pr DR (.cond c x y) K S = evK S c fun v => match v with
    | .v (.bool b) => brk b (vc P T B pr DR x K S) (vc P T B pr DR y K S)
    | _ => False := rfl
theorem vc_block {id : Nat} {c : Code} : vc P T B pr DR (.block id c) K S = vc P T B pr DR c (fun e S' => match e with | .exit j => bif Nat.beq j id then K .normal S' else K (.exit j) S' | e => K e S') S := rfl
theorem vc_loop {c : Code} : vc P T B pr DR (.loop c) K S = LoopP (vc P T B pr DR c) K S := rfl
theorem vc_exit {id : Nat} : vc P T B pr DR (.exit id) K S = K (.exit id) S := rfl
theorem vc_ret : vc P T B pr DR .ret K S = K .ret S := rfl
theorem vc_rangeFunc {g : Operand} {ps : Array Tmp} {x y : Code} : vc P T B pr DR (.rangeFunc g ps x y) K S = evK S g fun gv => match gv with
    | .v (.func (.func f) first cap) => req (B.contains f) <| RangeP P f first.toList cap.toList ps.toList (vc P T B pr DR x) (vc P T B pr DR y) K S
    | _ => False := rfl
theorem vc_scope {x : Code} : vc P T B pr DR (.scope x) K S = False := rfl
theorem vc_label {l : Nat} : vc P T B pr DR (.label l) K S = False := rfl
theorem vc_goto {l : Nat} : vc P T B pr DR (.goto l) K S = False := rfl
theorem vc_refuse {s : String} : vc P T B pr DR (.refuse s) K S = False := rfl
end
end Go.Mv
