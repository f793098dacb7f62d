/- The engine, part 12: regions that draw their order (definitions); code; calls. -/
import Derived.Test.YtcjgagkkanokjaaE11
namespace Go.Eng

/-! ### equality of abstract values -/
mutual
def avEq : AV → AV → Bool
  | .bool a, .bool b => a == b
  | .int k a, .int l b => k == l && a == b
  | .str a, .str b => a == b
  | .nilptr, .nilptr => true
  | .ptr a b, .ptr c d => Nat.beq a c && Nat.beq b d
  | .nilsl, .nilsl => true
  | .sl b o z l (.at_ c), .sl b' o' z' l' (.at_ c') => Nat.beq b b' && Nat.beq o o' && Nat.beq z z' && Nat.beq l l' && Nat.beq c c'
  | .sl b o z l (.op c), .sl b' o' z' l' (.op c') => Nat.beq b b' && Nat.beq o o' && Nat.beq z z' && Nat.beq l l' && Nat.beq c c'
  | .nilmap, .nilmap => true
  | .map a, .map b => Nat.beq a b
  | .func f c, .func g d => Nat.beq f g && avsEq c d
  | .nilFunc, .nilFunc => true
  | .iface t v, .iface u w => Nat.beq t u && avEq v w
  | .nilIface, .nilIface => true
  | .agg a, .agg b => avsEq a b
  | .tuple a, .tuple b => avsEq a b
  | _, _ => false
def avsEq : List AV → List AV → Bool
  | [], [] => true
  | a :: r, b :: s => avEq a b && avsEq r s
  | _, _ => false
end
mutual
theorem avEq_eq : ∀ a b : AV, avEq a b = true → a = b
  | .bool a, b, h => by cases b <;> simp_all [avEq]
  | .int k a, b, h => by cases b <;> simp_all [avEq]
  | .str a, b, h => by cases b <;> simp_all [avEq]
  | .nilptr, b, h => by cases b <;> simp_all [avEq]
  | .ptr a c, b, h => by cases b <;> simp_all [avEq]
  | .nilsl, b, h => by cases b <;> simp_all [avEq]
  | .sl b o z l cap, c, h => by
    cases c with
    | sl b' o' z' l' cap' => cases cap <;> cases cap' <;> simp_all [avEq]
    | _ => cases cap <;> simp [avEq] at h
  | .nilmap, b, h => by cases b <;> simp_all [avEq]
  | .map a, b, h => by cases b <;> simp_all [avEq]
  | .func f c, b, h => by
    cases b with
    | func g d => simp only [avEq, Bool.and_eq_true, beq_true] at h; rw [h.1, avsEq_eq c d h.2]
    | _ => simp [avEq] at h
  | .nilFunc, b, h => by cases b <;> simp_all [avEq]
  | .iface t v, b, h => by
    cases b with
    | iface u w => simp only [avEq, Bool.and_eq_true, beq_true] at h; rw [h.1, avEq_eq v w h.2]
    | _ => simp [avEq] at h
  | .nilIface, b, h => by cases b <;> simp_all [avEq]
  | .agg a, b, h => by
    cases b with
    | agg d => simp only [avEq] at h; rw [avsEq_eq a d h]
    | _ => simp [avEq] at h
  | .tuple a, b, h => by
    cases b with
    | tuple d => simp only [avEq] at h; rw [avsEq_eq a d h]
    | _ => simp [avEq] at h
theorem avsEq_eq : ∀ a b : List AV, avsEq a b = true → a = b
  | [], [], _ => rfl
  | [], _ :: _, h => by simp [avsEq] at h
  | _ :: _, [], h => by simp [avsEq] at h
  | a :: r, b :: s, h => by
    simp only [avsEq, Bool.and_eq_true] at h
    rw [avEq_eq a b h.1, avsEq_eq r s h.2]
end

/-! ### regions that draw: what must hold of the text -/
def isEff (o : Oper) : Bool := match kind o.op with | .eff => true | _ => false
def isAlloc (o : Oper) : Bool := match kind o.op with | .alloc => true | _ => false
def isLoad (o : Oper) : Bool := match kind o.op with | .load => true | _ => false
def binds (e : Edge) : Bool := Region.binds .any e
/-- Is j before i, by the masks? -/
def bit (M : List Nat) (i j : Nat) : Bool := (M.getD i 0).testBit j
def hasDst (d : Option Tmp) (l : List Tmp) : Bool := match d with | some t => l.contains t | none => false
def sameDst (a b : Option Tmp) : Bool := match a, b with | some x, some y => Nat.beq x y | _, _ => false

/-- Edges lead back; each bit is paid for by an edge. -/
def maskOk (M : List Nat) (i : Nat) (o : Oper) : Bool :=
  (o.after.toList.all fun e => !binds e || Nat.blt e.on i) &&
  (List.range i).all fun k => !bit M i k || o.after.toList.any fun e => binds e && (Nat.beq e.on k || (Nat.blt k e.on && bit M e.on k))
/-- The operations j < i do not meet, or j is before i. -/
def pairOk (ops : Array Oper) (M : List Nat) (oj : Oper) (j : Nat) (oi : Oper) (i : Nat) : Bool :=
  !sameDst oj.dst oi.dst &&
  (bit M i j || (!hasDst oj.dst (oi.looksAt ops) && !hasDst oi.dst (oj.looksAt ops) && !(isEff oi && (isEff oj || isAlloc oj))))
def rowOk (ops : Array Oper) (M : List Nat) (oi : Oper) (i : Nat) : List Oper → Nat → Bool
  | [], _ => true
  | oj :: r, j => if Nat.blt j i then pairOk ops M oj j oi i && rowOk ops M oi i r (j + 1) else true
def textOk (ops : Array Oper) (M : List Nat) : List Oper → Nat → Bool
  | [], _ => true
  | oi :: r, i => maskOk M i oi && rowOk ops M oi i ops.toList 0 && textOk ops M r (i + 1)
def masks (ops : Array Oper) : List Nat := (Region.before ops).toList
def drawOk (ops : Array Oper) : Bool := textOk ops (masks ops) ops.toList 0

/-! ### regions that draw: the run in the order of the text, with its records -/
structure Rec where
  fr : AFrame
  h : AHeap
  v : AV
def adops (P : Program) (call : CallFn) (ops : Array Oper) : List Oper → AFrame → AHeap → Option (List Rec × AFrame × AHeap)
  | [], fr, h => some ([], fr, h)
  | o :: r, fr, h =>
    match astep P call ops fr h o with
    | some (v, h') => match fr.put o.dst v with
      | some fr' =>
        if Nat.ble h.next h'.next && Nat.beq h.glob h'.glob then
          match adops P call ops r fr' h' with
          | some (tr, fr2, h2) => some (⟨fr, h, v⟩ :: tr, fr2, h2)
          | none => none
        else none
      | none => none
    | none => none

/-- The heaps behind the effects (and at the head): (number of operations done, heap). -/
def states : List Oper → List Rec → Nat → AHeap → List (Nat × AHeap)
  | o :: r, _ :: tr, i, hl =>
    let h' := match tr with | [] => hl | rec :: _ => rec.h
    if isEff o then (i + 1, h') :: states r tr (i + 1) hl else states r tr (i + 1) hl
  | _, _, _, _ => []
/-- May load number l come up in the state behind the first s operations' effects? -/
def window (M : List Nat) (l s : Nat) : List Oper → Nat → Bool
  | [], _ => true
  | o :: r, e => (!isEff o || ((!(Nat.blt e l && bit M l e) || Nat.blt e s) && (!(Nat.blt l e && bit M e l) || Nat.ble s e))) && window M l s r (e + 1)
def loadOk (P : Program) (ops : Array Oper) (M : List Nat) (sts : List (Nat × AHeap)) (l : Nat) (o : Oper) (rec : Rec) : Bool :=
  if isLoad o then
    match awanted ops rec.fr o with
    | some true => sts.all fun s => !window M l s.1 ops.toList 0 || (match pload P s.2 (aeval rec.fr rec.h.glob) o.op with | some v => avEq v rec.v | none => false)
    | _ => true
  else true
def loadsOk (P : Program) (ops : Array Oper) (M : List Nat) (sts : List (Nat × AHeap)) : List Oper → List Rec → Nat → Bool
  | o :: r, rec :: tr, i => loadOk P ops M sts i o rec && loadsOk P ops M sts r tr (i + 1)
  | _, _, _ => true
/-- No effect and no new block: every heap is the first. -/
def still : List Oper → Bool
  | [] => true
  | o :: r => !isEff o && !isAlloc o && still r

def adraw (P : Program) (call : CallFn) (ops : Array Oper) (fr : AFrame) (h : AHeap) : Option (AFrame × AHeap) :=
  if drawOk ops then
    match adops P call ops ops.toList fr h with
    | some (tr, fr', h') =>
      if still ops.toList || loadsOk P ops (masks ops) ((0, h) :: states ops.toList tr 0 h') ops.toList tr 0 then some (fr', h') else none
    | none => none
  else none

/-! ### code -/
inductive AEx where
  | normal
  | exit (id : Nat)
  | ret
abbrev ASt := AEx × AFrame × AHeap

def aiter (body : AFrame → AHeap → Option ASt) : Nat → AFrame → AHeap → Option ASt
  | 0, _, _ => none
  | n + 1, fr, h =>
    match body fr h with
    | some (.normal, fr', h') => aiter body n fr' h'
    | some (.exit id, fr', h') => some (.exit id, fr', h')
    | some (.ret, fr', h') => some (.ret, fr', h')
    | none => none

def aexec (P : Program) (call : CallFn) (n : Nat) : Code → AFrame → AHeap → Option ASt
  | .skip, fr, h => some (.normal, fr, h)
  | .label _, fr, h => some (.normal, fr, h)
  | .region _ ops draw, fr, h =>
    match (if draw then adraw P call ops fr h else aops P call ops ops.toList fr h) with
    | some (fr', h') => some (.normal, fr', h')
    | none => none
  | .seq x y, fr, h =>
    match aexec P call n x fr h with
    | some (.normal, fr', h') => aexec P call n y fr' h'
    | some (.exit id, fr', h') => some (.exit id, fr', h')
    | some (.ret, fr', h') => some (.ret, fr', h')
    | none => none
  | .cond c x y, fr, h =>
    match aeval fr h.glob c with
    | some (.bool b) => match b with
      | true => aexec P call n x fr h
      | false => aexec P call n y fr h
    | _ => none
  | .block id c, fr, h =>
    match aexec P call n c fr h with
    | some (.normal, fr', h') => some (.normal, fr', h')
    | some (.exit id', fr', h') => if id' = id then some (.normal, fr', h') else some (.exit id', fr', h')
    | some (.ret, fr', h') => some (.ret, fr', h')
    | none => none
  | .loop c, fr, h => aiter (fun fr h => aexec P call n c fr h) n fr h
  | .exit id, fr, h => some (.exit id, fr, h)
  | .ret, fr, h => some (.ret, fr, h)
  | _, _, _ => none

def ares (P : Program) (fr : AFrame) (h : AHeap) : List ResultVar → Option (List AV)
  | [] => some []
  | .tmp t :: r => match fr.get t, ares P fr h r with
    | some v, some l => some (v :: l)
    | _, _ => none
  | .cell a t :: r => match fr.get a with
    | some p => match aload P h t p, ares P fr h r with
      | some v, some l => some (v :: l)
      | _, _ => none
    | none => none
def ares1 : List AV → AV
  | [v] => v
  | l => .tuple l
def args0 : List AV → Nat → T AV → T AV
  | [], _, t => t
  | v :: r, i, t => args0 r (i + 1) (T.set 6 t i v)

/-- Calls that are known from elsewhere. -/
class Orc where
  call : CallFn
  nx : ∀ f args h r h', call f args h = some (r, h') → h.next ≤ h'.next ∧ h'.glob = h.glob
/-- None. -/
@[reducible] def Orc.none : Orc := ⟨fun _ _ _ => Option.none, fun _ _ _ _ _ h => by cases h⟩
def abody (P : Program) (call : CallFn) (n : Nat) (f : FuncId) (args : List AV) (h : AHeap) : Option (AV × AHeap) :=
  match P.funcs[f]? with
  | some fn => match fn.body with
    | some c =>
      match aexec P call n c ⟨args.length + (fn.ntmps - args.length), args0 args 0 .nil⟩ h with
      | some (.normal, fr, h') => match ares P fr h' fn.results.toList with
        | some l => some (ares1 l, h')
        | none => none
      | some (.ret, fr, h') => match ares P fr h' fn.results.toList with
        | some l => some (ares1 l, h')
        | none => none
      | _ => none
    | none => none
  | none => none
def acall (P : Program) [Orc] : Nat → CallFn
  | 0 => Orc.call
  | n + 1 => fun f args h => match Orc.call f args h with
    | some r => some r
    | none => abody P (acall P n) n f args h

end Go.Eng
