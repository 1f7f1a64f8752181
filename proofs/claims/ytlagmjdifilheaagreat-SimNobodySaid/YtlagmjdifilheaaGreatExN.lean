/- The executor once more, made for the kernel: the slots in a tree, each operation read once, what comes next handed on as a function. Definitions alone; no condition. -/
import Derived.Test.YtlagmjdifilheaaGreatExA
namespace Go.Proofs.YtlagmjdifilheaaGreat.Exe
open Go Go.RowKit

/-- What lies in a tree, or else this. -/
noncomputable def T4.getD {α : Type} (d0 : α) (l : List Dg) : T4 α → α := List.rec (motive := fun _ => T4 α → α)
  (fun t => T4.rec (motive := fun _ => α) d0 (fun v => v) (fun _ _ _ _ _ _ _ _ => d0) t)
  (fun d _ ih t => T4.rec (motive := fun _ => α) d0 (fun _ => d0) (fun p q r s _ _ _ _ => Dg.rec (motive := fun _ => α) (ih p) (ih q) (ih r) (ih s) d) t) l
/-- What an operand stands for. -/
inductive KV where
  | slot (p : List Dg)
  | val (v : W)
noncomputable def kv (L n : Nat) : Operand → KV
  | .tmp t => bif t.blt L then .slot (path n t) else .val (.o undef)
  | .const v => .val (toW v)
  | .global g => .val (.p g 0)
  | .func f => .val (.o (.func (.func f) #[] #[]))
noncomputable def KV.at (e : T4 W) (x : KV) : W := KV.rec (motive := fun _ => W) (fun p => T4.getD (.o undef) p e) (fun v => v) x
noncomputable def evK (L n : Nat) (e : T4 W) (x : Operand) : Value := ((kv L n x).at e).val
/-- Where a result goes. -/
inductive KD where
  | no
  | slot (p : List Dg)
noncomputable def kd (L n : Nat) : Option Tmp → KD
  | some t => bif t.blt L then .slot (path n t) else .no
  | none => .no
noncomputable def KD.put (e : T4 W) (v : W) (d : KD) : T4 W := KD.rec (motive := fun _ => T4 W) e (fun p => T4.put (.leaf v) p e) d

/-- A chain of operations, read. -/
inductive KC where
  | done
  | bad
  | mv (x : KV) (d : KD) (k : KC)
  | arU (f : Nat → Nat → Nat) (x y : KV) (d : KD) (k : KC)
  | shU (f : Nat → Nat → Nat) (x y : KV) (d : KD) (k : KC)
  | divU (f : Nat → Nat → Nat) (x y : KV) (d : KD) (k : KC)
  | arI (f : Nat → Nat → Nat) (x y : KV) (o : Op) (d : KD) (k : KC)
  | cmp (f : Nat → Nat → Bool) (x y : KV) (o : Op) (d : KD) (k : KC)
  | fa (off : Nat) (x : KV) (d : KD) (k : KC)
  | ia (len z : Nat) (x i : KV) (d : KD) (k : KC)
  | ld (x : KV) (d : KD) (k : KC)
  | st (x v : KV) (d : KD) (k : KC)
  | quiet (o : Op) (d : KD) (k : KC)
  | loud (o : Op) (d : KD) (k : KC)
  | call (f : KV) (xs : List KV) (d : KD) (k : KC)
  | grd (x : KV) (want : Bool) (d : KD) (k l : KC)
  | ext (x : KV) (i : Nat) (d : KD) (k : KC)
  | nilc (x : KV) (o : Op) (d : KD) (k : KC)
  | ldn (z : Nat) (x : KV) (d : KD) (k : KC)
  | stn (z : Nat) (x v : KV) (d : KD) (k : KC)
  | alc (b : Blk) (d : KD) (k : KC)
  | box (t : TypeId) (x : KV) (d : KD) (k : KC)
  | chkQ (o : Op) (x : KV) (k : KC)
  | chkM (o : Op) (x : KV) (k : KC)

noncomputable def binK (P : Program) (L n : Nat) (o : Op) (op : BinOp) (t : TypeId) (x y : Operand) (d : KD) (k : KC) : KC := match P.underlying t with
  | some (.int .u64) => match op with
    | .add => .arU (fun a b => Nat.mod (Nat.add a b) 18446744073709551616) (kv L n x) (kv L n y) d k
    | .sub => .arU (fun a b => Nat.mod (Nat.sub (Nat.add a (Nat.mul 18446744073709551616 (Nat.succ (Nat.div b 18446744073709551616)))) b) 18446744073709551616) (kv L n x) (kv L n y) d k
    | .mul => .arU (fun a b => Nat.mod (Nat.mul a b) 18446744073709551616) (kv L n x) (kv L n y) d k
    | .and => .arU (fun a b => Nat.mod (Nat.land a b) 18446744073709551616) (kv L n x) (kv L n y) d k
    | .or => .arU (fun a b => Nat.mod (Nat.lor a b) 18446744073709551616) (kv L n x) (kv L n y) d k
    | .xor => .arU (fun a b => Nat.mod (Nat.xor a b) 18446744073709551616) (kv L n x) (kv L n y) d k
    | .shl => .shU (fun a b => Nat.mod (Nat.shiftLeft a (Nat.min b 64)) 18446744073709551616) (kv L n x) (kv L n y) d k
    | .shr => .shU (fun a b => Nat.shiftRight a (Nat.min b 64)) (kv L n x) (kv L n y) d k
    | .quo => .divU (fun a b => Nat.mod (Nat.div a b) 18446744073709551616) (kv L n x) (kv L n y) d k
    | .rem => .divU Nat.mod (kv L n x) (kv L n y) d k
    | .eql => .cmp Nat.beq (kv L n x) (kv L n y) o d k
    | .neq => .cmp (fun a b => Bool.rec true false (Nat.beq a b)) (kv L n x) (kv L n y) o d k
    | .lss => .cmp (fun a b => Nat.ble (Nat.succ a) b) (kv L n x) (kv L n y) o d k
    | .leq => .cmp Nat.ble (kv L n x) (kv L n y) o d k
    | .gtr => .cmp (fun a b => Nat.ble (Nat.succ b) a) (kv L n x) (kv L n y) o d k
    | .geq => .cmp (fun a b => Nat.ble b a) (kv L n x) (kv L n y) o d k
    | _ => .quiet o d k
  | some (.int .i64) => match op with
    | .add => .arI Nat.add (kv L n x) (kv L n y) o d k
    | .sub => .arI (fun a b => Bool.rec 18446744073709551616 (Nat.sub a b) (Nat.ble b a)) (kv L n x) (kv L n y) o d k
    | .mul => .arI Nat.mul (kv L n x) (kv L n y) o d k
    | .quo => .arI (fun a b => Bool.rec (Nat.div a b) 18446744073709551616 (Nat.beq b 0)) (kv L n x) (kv L n y) o d k
    | .rem => .arI (fun a b => Bool.rec (Nat.mod a b) 18446744073709551616 (Nat.beq b 0)) (kv L n x) (kv L n y) o d k
    | .eql => .cmp Nat.beq (kv L n x) (kv L n y) o d k
    | .neq => .cmp (fun a b => Bool.rec true false (Nat.beq a b)) (kv L n x) (kv L n y) o d k
    | .lss => .cmp (fun a b => Nat.ble (Nat.succ a) b) (kv L n x) (kv L n y) o d k
    | .leq => .cmp Nat.ble (kv L n x) (kv L n y) o d k
    | .gtr => .cmp (fun a b => Nat.ble (Nat.succ b) a) (kv L n x) (kv L n y) o d k
    | .geq => .cmp (fun a b => Nat.ble b a) (kv L n x) (kv L n y) o d k
    | _ => .quiet o d k
  | _ => .quiet o d k
noncomputable def opK (P : Program) (L n : Nat) (o : Op) (d : KD) (k : KC) : KC := match o with
  | .move x | .assign x => .mv (kv L n x) d k
  | .binOp op t x y _ => binK P L n o op t x y d k
  | .fieldAddr s x f => match P.underlying s with
    | some (.struct fields) => match fields[f]? with
      | some fd => match szQ P fd.type with
        | some (_ + 1) => .fa fd.offset (kv L n x) d k
        | _ => .quiet o d k
      | none => .quiet o d k
    | _ => .quiet o d k
  | .indexAddr t x i => match P.underlying t with
    | some (.array len e) => match szQ P e with
      | some z => .ia len z (kv L n x) (kv L n i) d k
      | none => .quiet o d k
    | _ => .quiet o d k
  | .load t a => match aggQ P t, szQ P t with
    | some false, _ => .ld (kv L n a) d k
    | some true, some z => .ldn z (kv L n a) d k
    | _, _ => .quiet o d k
  | .store t a x => match aggQ P t, szQ P t with
    | some false, some 1 => .st (kv L n a) (kv L n x) d k
    | some true, some (z + 1) => .stn (z + 1) (kv L n a) (kv L n x) d k
    | _, _ => .loud o d k
  | .extract x i => .ext (kv L n x) i d k
  | .nilCheck x => .nilc (kv L n x) o d k
  | .alloc t => match zeroQ P t with
    | some z => .alc (Blk.of z.cells.toList t false) d k
    | none => .bad
  | .box t x => .box t (kv L n x) d k
  | .buildSlice .. | .makeSlice .. | .makeMap .. | .mapUpdate .. | .insert .. => .loud o d k
  | .convert src dst _ => match P.underlying src, P.underlying dst with
    | some .string, some (.slice _) => .loud o d k
    | _, _ => .quiet o d k
  | .call { callee := .builtin .append, .. } | .call { callee := .builtin .copy, .. } | .call { callee := .builtin .clear, .. } | .call { callee := .builtin .unsafeString, .. } => .loud o d k
  | .call { callee := .value f, args, .. } => .call (kv L n f) (args.toList.map (kv L n)) d k
  | o => .quiet o d k
/-- An operation with its guard. -/
noncomputable def operK (P : Program) (L n : Nat) (ops : List Oper) (o : Oper) (k : KC) : KC := bif o.op.operands.toList.all opdB then match o.guard with
    | none => opK P L n o.op (kd L n o.dst) k
    | some (j, want) => match (ops[j]?).bind (·.dst) with
      | some g => .grd (kv L n (.tmp g)) want (kd L n o.dst) (opK P L n o.op (kd L n o.dst) k) k
      | none => .bad
  else .bad
noncomputable def chainK (P : Program) (L n : Nat) (ops : List Oper) : List Oper → KC
  | [] => .done
  | o :: os => operK P L n ops o (chainK P L n ops os)

/-- What lies in the block that an operation makes, and what it yields, by the block's name. -/
noncomputable def makeQ (P : Program) (η : Operand → Value) (o : Op) : Option (Blk × (Nat → Value)) := match o with
  | .alloc e => (zeroQ P e).map fun z => (Blk.of z.cells.toList e false, fun i => .pointer (some ⟨i, 0, none⟩))
  | .box e x => some (Blk.of (η x).cells.toList e false, fun i => .pointer (some ⟨i, 0, none⟩))
  | .buildSlice t len parts => match P.underlying t with
    | some (.slice e) => (szQ P e).bind fun n => (zeroQ P e).bind fun z => if 2 ^ 24 < len * n || z.cells.size ≠ n || 2 ^ 24 < len then none else
      (Instr.fill (fun i => some (i * n, n)) (zerosL z.cells.toList len).toArray (parts.toList.map fun (i, x) => (i, η x))).map fun cells =>
        (Blk.of cells.toList e false, fun i => .slice (some ⟨i, 0, none⟩) len len)
    | _ => none
  | _ => none
/-- Makers of memory. -/
def makerB : Op → Bool
  | .alloc _ | .box .. | .buildSlice .. => true
  | _ => false
/-- Operations that look at memory. -/
def readB : Op → Bool
  | .load .. | .convert .. | .lookup .. => true
  | _ => false
/-- 0 an operation that changes nothing, 1 a maker of memory, 2 all else. -/
def role (P : Program) (o : Op) : Nat := match o with
  | .alloc _ | .box .. | .buildSlice .. => 1
  | .store .. | .makeSlice .. | .makeMap .. | .mapUpdate .. | .insert .. => 2
  | .convert src dst _ => match P.underlying src, P.underlying dst with
    | some .string, some (.slice _) => 2
    | _, _ => 0
  | .call c => match c.callee with
    | .builtin .append | .builtin .copy | .builtin .clear | .builtin .unsafeString | .value _ | .invoke _ _ => 2
    | _ => 0
  | _ => 0
/-- Values that are the same, as far as it is told. -/
def eq1 : Value → Value → Bool
  | .int k a, .int k' b => decide (k = k') && decide (a = b)
  | .bool a, .bool b => a == b
  | .string a, .string b => decide (a.data.toList = b.data.toList)
  | .pointer none, .pointer none => true
  | .pointer (some ⟨i, o, none⟩), .pointer (some ⟨j, p, none⟩) => Nat.beq i j && Nat.beq o p
  | .slice none a b, .slice none c d => Nat.beq a c && Nat.beq b d
  | .slice (some ⟨i, o, none⟩) a b, .slice (some ⟨j, p, none⟩) c d => Nat.beq i j && Nat.beq o p && (Nat.beq a c && Nat.beq b d)
  | .map none, .map none => true
  | .map (some i), .map (some j) => Nat.beq i j
  | .nilFunc, .nilFunc => true
  | .nilIface, .nilIface => true
  | .func (.func f) xs ys, .func (.func g) xs' ys' => Nat.beq f g && (xs.isEmpty && ys.isEmpty && (xs'.isEmpty && ys'.isEmpty))
  | _, _ => false
def eqL : List Value → List Value → Bool
  | [], [] => true
  | a :: l, b :: m => eq1 a b && eqL l m
  | _, _ => false
def eqV : Value → Value → Bool
  | .agg xs, .agg ys => eqL xs.toList ys.toList
  | .tuple xs, .tuple ys => eqL xs.toList ys.toList
  | u, v => eq1 u v
def nameOf : Value → Option Nat
  | .pointer (some ⟨i, _, none⟩) => some i
  | .slice (some ⟨i, _, none⟩) _ _ => some i
  | _ => none
def nopO : Oper := { dst := none, op := .ready 0, type := 0, pos := "", after := #[], guard := none }
def opAt (ops : List Oper) (i : Nat) : Oper := (ops[i]?).getD nopO
/-- All that must have come up ahead of an operation, as bits. -/
def edgeMask (as : List Nat) (o : Oper) : Nat := o.after.toList.foldl (fun m e => bif Region.binds .any e then m ||| (2 ^ e.on ||| as.getD e.on 0) else m) 0
def ancs : List Oper → List Nat → List Nat
  | [], as => as
  | o :: os, as => ancs os (as ++ [edgeMask as o])
/-- The slots that an operation looks at. -/
def temps (ops : List Oper) (o : Oper) : List Nat := (o.op.operands.toList.filterMap fun x => match x with
  | .tmp t => some t
  | _ => none) ++ (match o.guard with
    | some (g, _) => ((ops[g]?).bind (·.dst)).toList
    | none => [])
def ancOf (as : List Nat) (i : Nat) : Nat := as.getD i 0
/-- The order in which a region is gone through: what changes nothing, and what makes memory, as early as may be. -/
def sortK (P : Program) (ops : List Oper) (as : List Nat) (wm : Nat) : Nat → List Nat → Nat → List Nat
  | 0, _, _ => []
  | f + 1, todo, dw =>
    let is := fun i => role P (opAt ops i).op != 2 && ((ancOf as i &&& wm) &&& dw) == (ancOf as i &&& wm)
    let now := todo.filter is
    let rest := todo.filter fun i => !(is i)
    match rest.find? fun i => role P (opAt ops i).op == 2 with
    | none => now ++ rest
    | some x => now ++ [x] ++ sortK P ops as wm f (rest.filter fun i => i != x) (dw ||| 2 ^ x)
def okIt (P : Program) (ops : List Oper) (as : List Nat) (done : List Nat) (i : Nat) (rest : List Nat) : Bool :=
  let o := opAt ops i
  Nat.blt i ops.length && (done.all fun j => !(Nat.beq j i)) && Nat.beq (ancOf as i) (edgeMask as o) && (o.after.toList.all fun e => !(Region.binds .any e) || Nat.blt e.on i) &&
    (match o.dst with
      | some d => done.all fun j => (opAt ops j).dst != some d
      | none => true) &&
    ((temps ops o).all fun t => (rest.all fun j => (opAt ops j).dst != some t || (ancOf as j).testBit i) && (done.all fun j => (opAt ops j).dst != some t || (ancOf as i).testBit j)) &&
    (done.all fun j => !(Nat.beq (role P (opAt ops j).op) 2) || (ancOf as i).testBit j) &&
    (match o.guard with
      | none => true
      | some (g, _) => ((ops[g]?).bind (·.dst)).isSome)
def okIts (P : Program) (ops : List Oper) (as : List Nat) : List Nat → List Nat → Bool
  | _, [] => true
  | done, i :: rest => okIt P ops as done i rest && okIts P ops as (done ++ [i]) rest
/-- Whether an operation that may not have come up yet must be looked at again. -/
def pendB (P : Program) (ops : List Oper) (as : List Nat) (j : Nat) (post : List Nat) : Bool :=
  (Nat.beq (role P (opAt ops j).op) 1 || (Nat.beq (role P (opAt ops j).op) 0 && readB (opAt ops j).op && post.any fun q => !(Nat.beq (role P (opAt ops q).op) 0))) &&
    post.all fun q => !(Nat.beq (role P (opAt ops q).op) 2) || !((ancOf as q).testBit j)
/-- Whether what an operation looks at is not written behind it. -/
def stayB (ops : List Oper) (j : Nat) (post : List Nat) : Bool := (temps ops (opAt ops j)).all fun t => (j :: post).all fun q => (opAt ops q).dst != some t
noncomputable def chkC (P : Program) (L n : Nat) (ops : List Oper) (j : Nat) (k : KC) : KC :=
  let c := match (opAt ops j).dst with
    | some d => bif Nat.blt d L then (match role P (opAt ops j).op with
      | 0 => .chkQ (opAt ops j).op (kv L n (.tmp d)) k
      | _ => .chkM (opAt ops j).op (kv L n (.tmp d)) k) else .bad
    | none => .bad
  match (opAt ops j).guard with
  | none => c
  | some (g, want) => match (ops[g]?).bind (·.dst) with
    | some gd => .grd (kv L n (.tmp gd)) want .no c k
    | none => .bad
noncomputable def chksC (P : Program) (L n : Nat) (ops : List Oper) (as : List Nat) : List Nat → KC → KC
  | [], k => k
  | j :: post, k => bif pendB P ops as j post then (bif stayB ops j post then chkC P L n ops j (chksC P L n ops as post k) else .bad) else chksC P L n ops as post k
noncomputable def drawC (P : Program) (L n : Nat) (ops : List Oper) (as : List Nat) : List Nat → List Nat → KC
  | done, [] => chksC P L n ops as done .done
  | done, i :: todo => bif Nat.beq (role P (opAt ops i).op) 2 then chksC P L n ops as done (operK P L n ops (opAt ops i) (drawC P L n ops as (done ++ [i]) todo))
    else operK P L n ops (opAt ops i) (drawC P L n ops as (done ++ [i]) todo)
noncomputable def drawK (P : Program) (L n : Nat) (ops : List Oper) : Option KC :=
  let as := ancs ops []
  let ids := List.range ops.length
  let wm := ids.foldl (fun m i => bif Nat.beq (role P (opAt ops i).op) 2 then m ||| 2 ^ i else m) 0
  let ord := sortK P ops as wm (ops.length + 1) ids 0
  bif Nat.beq ord.length ops.length && (ids.all fun x => ord.any fun y => Nat.beq y x) && okIts P ops as [] ord then some (drawC P L n ops as [] ord) else none

/-- A function's code, read. -/
inductive KCode where
  | skip
  | exit (id : Nat)
  | ret
  | bad
  | ops (c : KC)
  | seq (a b : KCode)
  | cond (x : KV) (a b : KCode)
  | block (id : Nat) (b : KCode)
  | loop (b : KCode)
noncomputable def regionK (P : Program) (L n : Nat) (ops : List Oper) (draw : Bool) : KCode := match draw with
  | false => .ops (chainK P L n ops ops)
  | true => match drawK P L n ops with
    | some c => .ops c
    | none => .bad
noncomputable def codeK (P : Program) (L n : Nat) : Code → KCode
  | .skip | .label _ => .skip
  | .exit id => .exit id
  | .ret => .ret
  | .seq a b => .seq (codeK P L n a) (codeK P L n b)
  | .cond c a b => bif opdB c then .cond (kv L n c) (codeK P L n a) (codeK P L n b) else .bad
  | .block id b => .block id (codeK P L n b)
  | .scope b => codeK P L n b
  | .loop b => .loop (codeK P L n b)
  | .region _ ops draw => regionK P L n ops.toList draw
  | _ => .bad

/-- A call: what comes behind it is handed on. -/
abbrev CallC := FuncId → List Value → Hp → (Value → Hp → Bool) → Bool
noncomputable def ldK (h : Hp) (x : W) (k : W → Bool) : Bool := W.rec (motive := fun _ => Bool) (fun _ => false) (fun _ => false) (fun _ => false)
  (fun i off => h.find i fun b => b.raw.find off k) (fun _ => false) x
noncomputable def oneB (x : W) : Bool := W.rec (motive := fun _ => Bool) (fun _ => true) (fun _ => true) (fun _ => true) (fun _ _ => true) (fun v => cellB v) x
noncomputable def normW (x : W) : W := W.rec (motive := fun _ => W) (fun n => .u n) (fun n => .i n) (fun t => .b t) (fun i off => .p i off) (fun v => toW v) x
noncomputable def stK (h : Hp) (x v : W) (k : Hp → Bool) : Bool := W.rec (motive := fun _ => Bool) (fun _ => false) (fun _ => false) (fun _ => false)
  (fun i off => h.find i fun b => Bool.rec false (Bool.rec false (k (h.set i ⟨b.raw.set off (normW v), b.elem, b.grow⟩)) (oneB v)) (Nat.ble (Nat.succ off) b.raw.len)) (fun _ => false) x
/-- A chain's run. -/
noncomputable def runK (P : Program) (F : CallC) (L n : Nat) (c : KC) : T4 W → Hp → (T4 W → Hp → Bool) → Bool := KC.rec (motive := fun _ => T4 W → Hp → (T4 W → Hp → Bool) → Bool)
  (fun e h q => q e h)
  (fun _ _ _ => false)
  (fun x d _ ih e h q => ih (d.put e (x.at e)) h q)
  (fun f x y d _ ih e h q => W.rec (motive := fun _ => Bool) (fun a => W.rec (motive := fun _ => Bool) (fun b => ih (d.put e (.u (f a b))) h q) (fun _ => false) (fun _ => false) (fun _ _ => false) (fun _ => false) (y.at e)) (fun _ => false) (fun _ => false) (fun _ _ => false) (fun _ => false) (x.at e))
  (fun f x y d _ ih e h q => W.rec (motive := fun _ => Bool) (fun a => W.rec (motive := fun _ => Bool) (fun b => ih (d.put e (.u (f a b))) h q) (fun b => ih (d.put e (.u (f a b))) h q) (fun _ => false) (fun _ _ => false) (fun _ => false) (y.at e)) (fun _ => false) (fun _ => false) (fun _ _ => false) (fun _ => false) (x.at e))
  (fun f x y d _ ih e h q => W.rec (motive := fun _ => Bool) (fun a => W.rec (motive := fun _ => Bool) (fun b => Bool.rec (ih (d.put e (.u (f a b))) h q) false (Nat.beq b 0)) (fun _ => false) (fun _ => false) (fun _ _ => false) (fun _ => false) (y.at e)) (fun _ => false) (fun _ => false) (fun _ _ => false) (fun _ => false) (x.at e))
  (fun f x y o d _ ih e h q => let slow := match opQ P h (evK L n e) o with
      | some v => ih (d.put e (toW v)) h q
      | none => false
    W.rec (motive := fun _ => Bool) (fun _ => slow) (fun a => W.rec (motive := fun _ => Bool) (fun _ => slow) (fun b => Bool.rec slow (ih (d.put e (.i (f a b))) h q) (Nat.ble (f a b) 9223372036854775807)) (fun _ => slow) (fun _ _ => slow) (fun _ => slow) (y.at e)) (fun _ => slow) (fun _ _ => slow) (fun _ => slow) (x.at e))
  (fun f x y o d _ ih e h q => let slow := match opQ P h (evK L n e) o with
      | some v => ih (d.put e (toW v)) h q
      | none => false
    W.rec (motive := fun _ => Bool) (fun a => W.rec (motive := fun _ => Bool) (fun b => Bool.rec (ih (d.put e (.b false)) h q) (ih (d.put e (.b true)) h q) (f a b)) (fun _ => slow) (fun _ => slow) (fun _ _ => slow) (fun _ => slow) (y.at e))
      (fun a => W.rec (motive := fun _ => Bool) (fun _ => slow) (fun b => Bool.rec (ih (d.put e (.b false)) h q) (ih (d.put e (.b true)) h q) (f a b)) (fun _ => slow) (fun _ _ => slow) (fun _ => slow) (y.at e)) (fun _ => slow) (fun _ _ => slow) (fun _ => slow) (x.at e))
  (fun off x d _ ih e h q => W.rec (motive := fun _ => Bool) (fun _ => false) (fun _ => false) (fun _ => false) (fun i o => ih (d.put e (.p i (Nat.add o off))) h q) (fun _ => false) (x.at e))
  (fun len z x i d _ ih e h q => W.rec (motive := fun _ => Bool) (fun _ => false) (fun _ => false) (fun _ => false)
    (fun b o => W.rec (motive := fun _ => Bool) (fun _ => false) (fun j => Bool.rec false (ih (d.put e (.p b (Nat.add o (Nat.mul j z)))) h q) (Nat.ble (Nat.succ j) len)) (fun _ => false) (fun _ _ => false) (fun _ => false) (i.at e)) (fun _ => false) (x.at e))
  (fun x d _ ih e h q => ldK h (x.at e) (fun v => ih (d.put e v) h q))
  (fun x v d _ ih e h q => stK h (x.at e) (v.at e) (fun h' => ih (d.put e (.o undef)) h' q))
  (fun o d _ ih e h q => match opQ P h (evK L n e) o with
    | some v => ih (d.put e (toW v)) h q
    | none => false)
  (fun o d _ ih e h q => match opL P h (evK L n e) o with
    | some (v, h') => ih (d.put e (toW v)) h' q
    | none => false)
  (fun f xs d _ ih e h q => match (f.at e).val with
    | .func (.func g) first captured => F g (first.toList ++ xs.map (fun x => (x.at e).val) ++ captured.toList) h (fun v h' => ih (d.put e (toW v)) h' q)
    | _ => false)
  (fun x want d _ _ ihk ihl e h q => W.rec (motive := fun _ => Bool) (fun _ => ihl (d.put e (.o undef)) h q) (fun _ => ihl (d.put e (.o undef)) h q)
    (fun t => Bool.rec (ihl (d.put e (.o undef)) h q) (ihk e h q) (t == want)) (fun _ _ => ihl (d.put e (.o undef)) h q) (fun v => match v with
      | .bool _ => false
      | _ => ihl (d.put e (.o undef)) h q) (x.at e))
  (fun x i d _ ih e h q => W.rec (motive := fun _ => Bool) (fun _ => false) (fun _ => false) (fun _ => false) (fun _ _ => false) (fun v => match v with
    | .tuple vs => match vs.toList[i]? with
      | some u => ih (d.put e (toW u)) h q
      | none => false
    | _ => false) (x.at e))
  (fun x o d _ ih e h q => W.rec (motive := fun _ => Bool) (fun _ => false) (fun _ => false) (fun _ => false) (fun i off => ih (d.put e (.p i off)) h q) (fun _ => match opQ P h (evK L n e) o with
    | some v => ih (d.put e (toW v)) h q
    | none => false) (x.at e))
  (fun z x d _ ih e h q => W.rec (motive := fun _ => Bool) (fun _ => false) (fun _ => false) (fun _ => false)
    (fun i off => h.find i fun b => Bool.rec false (ih (d.put e (.o (.agg (b.raw.sub off z).toArray))) h q) (Nat.ble (Nat.add off z) b.raw.len)) (fun _ => false) (x.at e))
  (fun z x v d _ ih e h q => W.rec (motive := fun _ => Bool) (fun _ => false) (fun _ => false) (fun _ => false)
    (fun i off => match (v.at e).val with
      | .agg cs => h.find i fun b => Bool.rec false (ih (d.put e (.o undef)) (h.set i (b.putAll off cs.toList)) q) (Nat.beq cs.size z && Nat.ble (off + cs.toList.length) b.raw.len && cs.toList.all cellB)
      | _ => false) (fun _ => false) (x.at e))
  (fun b d _ ih e h q => match h.alloc b with
    | some (i, h') => ih (d.put e (.p i 0)) h' q
    | none => false)
  (fun t x d _ ih e h q => match h.alloc (Blk.of (x.at e).val.cells.toList t false) with
    | some (i, h') => ih (d.put e (.p i 0)) h' q
    | none => false)
  (fun o x _ ih e h q => match opQ P h (evK L n e) o with
    | some v => Bool.rec false (ih e h q) (eqV v (x.at e).val)
    | none => false)
  (fun o x _ ih e h q => match makeQ P (evK L n e) o with
    | some (blk, f) => match nameOf (x.at e).val with
      | some i => match h.get i with
        | some b => Bool.rec false (ih e h q) (eqV (x.at e).val (f i) && eqL b.cells blk.cells && Nat.beq b.elem blk.elem && b.grow == blk.grow)
        | none => false
      | none => false
    | none => false) c
abbrev XC := Nat → Nat → KCode → T4 W → Hp → (T4 W → Hp → Bool) → (Nat → T4 W → Hp → Bool) → (T4 W → Hp → Bool) → Bool
noncomputable def resAtK (P : Program) (L n : Nat) (h : Hp) (e : T4 W) : ResultVar → Option Value
  | .tmp t => some (evK L n e (.tmp t))
  | .cell a t => loadQ P h t (evK L n e (.tmp a))
noncomputable def resultsK (P : Program) (L n : Nat) (h : Hp) (e : T4 W) (fn : Func) : Option Value := match allQ (fn.results.toList.map (resAtK P L n h e)) with
  | some [v] => some v
  | some vs => some (.tuple vs.toArray)
  | none => none
/-- A call, by the function's body. -/
noncomputable def bodyK (P : Program) (X : XC) : CallC := fun g args h q => match P.funcs[g]? with
  | some fn => match fn.body with
    | some c => let fin := fun e' h' => match resultsK P fn.ntmps (deep fn.ntmps) h' e' fn with
        | some v => q v h'
        | none => false
      bif Nat.blt fn.ntmps 16777216 && Nat.ble args.length fn.ntmps then X fn.ntmps (deep fn.ntmps) (codeK P fn.ntmps (deep fn.ntmps) c) (fillT (deep fn.ntmps) 0 args .nil) h fin (fun _ _ _ => false) fin else false
    | none => match pureRun P (callFunc g args.toArray) with
      | some (.value v) => bif args.all flatB && flatB v then q v h else false
      | _ => false
  | none => false
/-- What is known of functions: of some, what they do; of others, what they do by what others do. -/
structure KnownC where
  leaf : FuncId → Option (List Value → Hp → (Value → Hp → Bool) → Bool)
  node : FuncId → Option (CallC → List Value → Hp → (Value → Hp → Bool) → Bool)
noncomputable def leafK (P : Program) (N : KnownC) (X : XC) : CallC := fun g args h q => match N.leaf g with
  | some f => f args h q
  | none => bodyK P X g args h q
noncomputable def callK (P : Program) (N : KnownC) (X : XC) : CallC := fun g args h q => match N.node g with
  | some f => f (leafK P N X) args h q
  | none => leafK P N X g args h q
noncomputable def execK (P : Program) (N : KnownC) (m : Nat) : XC := Nat.rec (motive := fun _ => XC) (fun _ _ _ _ _ _ _ _ => false)
  (fun _ im L n c => KCode.rec (motive := fun _ => T4 W → Hp → (T4 W → Hp → Bool) → (Nat → T4 W → Hp → Bool) → (T4 W → Hp → Bool) → Bool)
    (fun e h kn _ _ => kn e h)
    (fun id e h _ ke _ => ke id e h)
    (fun e h _ _ kr => kr e h)
    (fun _ _ _ _ _ => false)
    (fun c e h kn _ _ => runK P (callK P N im) L n c e h kn)
    (fun _ _ ia ib e h kn ke kr => ia e h (fun e' h' => ib e' h' kn ke kr) ke kr)
    (fun x _ _ ia ib e h kn ke kr => W.rec (motive := fun _ => Bool) (fun _ => false) (fun _ => false) (fun t => Bool.rec (ib e h kn ke kr) (ia e h kn ke kr) t) (fun _ _ => false) (fun _ => false) (x.at e))
    (fun id _ ib e h kn ke kr => ib e h kn (fun j e' h' => Bool.rec (ke j e' h') (kn e' h') (Nat.beq j id)) kr)
    (fun b ib e h kn ke kr => ib e h (fun e' h' => im L n (.loop b) e' h' kn ke kr) ke kr) c) m
end Go.Proofs.YtlagmjdifilheaaGreat.Exe
