/- The engine, part 20: the calculus as rules of rewriting. -/
import Derived.Test.YtcjgagkkanokjacGreatDoorE19
import Derived.IntWalk
namespace Go.Eng
attribute [local semireducible] AW OW SW EW CW Ca kseq kblock kloop kfun kres kop optP

/-- A mark that keeps the rewriter out. -/
inductive Tag {α : Sort _} (a : α) : Type
  | mk
/-- Two ways. -/
def Br (c : Bool) (A B : Prop) (_ : Tag A) (_ : Tag B) : Prop := (c = true → A) ∧ (c = false → B)
@[simp ↓] theorem Br_true (A B : Prop) (s : Tag A) (t : Tag B) : Br true A B s t = A := by simp [Br]
@[simp ↓] theorem Br_false (A B : Prop) (s : Tag A) (t : Tag B) : Br false A B s t = B := by simp [Br]
@[simp] theorem Br_true' (A B : Prop) (s : Tag A) (t : Tag B) : Br true A B s t = A := by simp
@[simp] theorem Br_false' (A B : Prop) (s : Tag A) (t : Tag B) : Br false A B s t = B := by simp
@[simp] theorem Br_not (c : Bool) (A B : Prop) (s : Tag A) (t : Tag B) : Br (!c) A B s t = Br c B A .mk .mk := by cases c <;> simp [Br]
theorem Br.mk {c : Bool} {A B : Prop} {s : Tag A} {t : Tag B} (h : c = true → A) (k : c = false → B) : Br c A B s t := ⟨h, k⟩
/-- Comparisons, kept as they are. -/
def ilt (a b : Int) : Bool := decide (a < b)
def ieq (a b : Int) : Bool := a == b
theorem ilt_true {a b : Int} : ilt a b = true ↔ a < b := by simp [ilt]
theorem ilt_false {a b : Int} : ilt a b = false ↔ b ≤ a := by simp [ilt]
theorem ieq_true {a b : Int} : ieq a b = true ↔ a = b := by simp [ieq]
theorem ieq_false {a b : Int} : ieq a b = false ↔ a ≠ b := by simp [ieq]

section
variable {P : Program} [Orc]
/-! ### operations -/
@[congr] theorem Ca_congr {f f' : FuncId} {a a' : List AV} {h : AHeap} {K : AV → AHeap → Prop} (hf : f = f') (ha : a = a') : Ca P f a h K = Ca P f' a' h K := by rw [hf, ha]
@[congr] theorem kseq_congr {y : Code} {Q : AEx → AFrame → AHeap → Prop} {e e' : AEx} {fr : AFrame} {h : AHeap} (he : e = e') : kseq P y Q e fr h = kseq P y Q e' fr h := by rw [he]
omit [Orc] in
@[congr] theorem kblock_congr {id : Nat} {Q : AEx → AFrame → AHeap → Prop} {e e' : AEx} {fr : AFrame} {h : AHeap} (he : e = e') : kblock id Q e fr h = kblock id Q e' fr h := by rw [he]
omit [Orc] in
@[congr] theorem kloop_congr {I : Nat → AFrame → AHeap → Prop} {k : Nat} {Q : AEx → AFrame → AHeap → Prop} {e e' : AEx} {fr : AFrame} {h : AHeap} (he : e = e') : kloop I k Q e fr h = kloop I k Q e' fr h := by rw [he]
omit [Orc] in
@[congr] theorem kfun_congr {rs : List ResultVar} {K : AV → AHeap → Prop} {e e' : AEx} {fr : AFrame} {h : AHeap} (he : e = e') : kfun P rs K e fr h = kfun P rs K e' fr h := by rw [he]
attribute [simp] OW_nil OW_cons kop_none AW_seq AW_block AW_exit AW_ret AW_skip AW_label kseq_exit kseq_ret kblock_normal kblock_ret kfun_normal kfun_ret kres_some AW_region_f AHeap.get_new AHeap.get_set
attribute [simp] kloop_exit kloop_ret
attribute [simp ↓] AFrame.upd_n AFrame.upd_get
omit [Orc] in
@[simp] theorem kblock_exit_ne {id id' : Nat} (hne : id' ≠ id) (Q : AEx → AFrame → AHeap → Prop) (fr : AFrame) (h : AHeap) : kblock id Q (.exit id') fr h = Q (.exit id') fr h := by rw [kblock_exit, if_neg hne]
omit [Orc] in
@[simp] theorem kblock_exit_eq (id : Nat) (Q : AEx → AFrame → AHeap → Prop) (fr : AFrame) (h : AHeap) : kblock id Q (.exit id) fr h = Q .normal fr h := by rw [kblock_exit, if_pos rfl]
@[simp] theorem kop_put {ops : Array Oper} {r : List Oper} {fr : AFrame} {d : Tmp} (hd : d < fr.n) (K : AFrame → AHeap → Prop) (v : AV) (h : AHeap) : kop P ops r fr (some d) K v h = OW P ops r (fr.upd d v) h K := by
  simp only [kop, hd, true_and]
@[congr] theorem kop_congr {ops : Array Oper} {r : List Oper} {fr : AFrame} {d : Option Tmp} {K : AFrame → AHeap → Prop} {v v' : AV} {h : AHeap} (hv : v = v') : kop P ops r fr d K v h = kop P ops r fr d K v' h := by rw [hv]

def gdst : List Oper → Nat → Option Tmp
  | [], _ => none
  | o :: _, 0 => o.dst
  | _ :: r, j + 1 => gdst r j
omit [Orc] in
theorem gdst_eq : ∀ (l : List Oper) (j : Nat), gdst l j = (l[j]?).bind (·.dst)
  | [], j => by simp [gdst]
  | o :: r, 0 => by simp [gdst]
  | o :: r, j + 1 => by simp [gdst, gdst_eq r j]
/-- A guarded operation: the guard's value is looked at first. -/
def SG (P : Program) [Orc] (g : Option AV) (want : Bool) (fr : AFrame) (h : AHeap) (op : Op) (K : AV → AHeap → Prop) : Prop :=
  match g with
  | some (.bool b) => Br (b == want) (EW P fr h op K) (K (.tuple []) h) .mk .mk
  | some (.tuple _) => K (.tuple []) h
  | _ => False
@[congr] theorem SG_congr {g g' : Option AV} {want : Bool} {fr : AFrame} {h : AHeap} {op : Op} {K : AV → AHeap → Prop} (hg : g = g') : SG P g want fr h op K = SG P g' want fr h op K := by rw [hg]
@[simp] theorem SG_bool (b want : Bool) (fr : AFrame) (h : AHeap) (op : Op) (K : AV → AHeap → Prop) : SG P (some (.bool b)) want fr h op K = Br (b == want) (EW P fr h op K) (K (.tuple []) h) .mk .mk := rfl
@[simp] theorem SG_tuple (l : List AV) (want : Bool) (fr : AFrame) (h : AHeap) (op : Op) (K : AV → AHeap → Prop) : SG P (some (.tuple l)) want fr h op K = K (.tuple []) h := rfl
def gget (fr : AFrame) : Option Tmp → Option AV
  | some d => fr.get d
  | none => none
@[simp] theorem SW_free (ops : Array Oper) (fr : AFrame) (h : AHeap) (dst : Option Tmp) (op : Op) (ty : TypeId) (pos : String) (after : Array Edge) (K : AV → AHeap → Prop) : SW P ops fr h ⟨dst, op, ty, pos, after, none⟩ K = EW P fr h op K := rfl
@[simp] theorem SW_guard (ops : Array Oper) (fr : AFrame) (h : AHeap) (dst : Option Tmp) (op : Op) (ty : TypeId) (pos : String) (after : Array Edge) (j : Nat) (want : Bool) (K : AV → AHeap → Prop) :
    SW P ops fr h ⟨dst, op, ty, pos, after, some (j, want)⟩ K = SG P (gget fr (gdst ops.toList j)) want fr h op K := by
  rw [gdst_eq]
  simp only [SW, awanted, Array.getElem?_toList]
  cases hd : (ops[j]?).bind (·.dst) with
  | none => simp [gget, SG]
  | some d =>
    simp only [gget]
    cases fr.get d with
    | none => rfl
    | some v =>
      cases v with
      | bool b => cases b <;> cases want <;> simp [SG]
      | _ => rfl

/-- With a value. -/
def Wv (x : Option AV) (h : AHeap) (K : AV → AHeap → Prop) : Prop := match x with | some v => K v h | none => False
omit [Orc] in
@[simp] theorem Wv_some (v : AV) (h : AHeap) (K : AV → AHeap → Prop) : Wv (some v) h K = K v h := rfl
omit [Orc] in
@[congr] theorem Wv_congr {x x' : Option AV} {h : AHeap} {K : AV → AHeap → Prop} (hx : x = x') : Wv x h K = Wv x' h K := by rw [hx]
omit [Orc] in
@[simp] theorem optP_some (v : AV) (h : AHeap) (K : AV → AHeap → Prop) : optP (some (v, h)) K = K v h := rfl
omit [Orc] in
@[congr] theorem optP_congr {x x' : Option (AV × AHeap)} {K : AV → AHeap → Prop} (hx : x = x') : optP x K = optP x' K := by rw [hx]
omit [Orc] in
theorem Wv_of {x : Option AV} {h : AHeap} {K : AV → AHeap → Prop} : optP (match x with | some v => some (v, h) | none => none) K = Wv x h K := by cases x <;> rfl

@[simp] theorem EW_move (fr : AFrame) (h : AHeap) (x : Operand) (K : AV → AHeap → Prop) : EW P fr h (.move x) K = Wv (aeval fr h.glob x) h K := Wv_of
@[simp] theorem EW_assign (fr : AFrame) (h : AHeap) (x : Operand) (K : AV → AHeap → Prop) : EW P fr h (.assign x) K = Wv (aeval fr h.glob x) h K := Wv_of
@[simp] theorem EW_pick (fr : AFrame) (h : AHeap) (c a b : Operand) (K : AV → AHeap → Prop) : EW P fr h (.pick c a b) K = Wv (ppure P (aeval fr h.glob) (.pick c a b)) h K := Wv_of
@[simp] theorem EW_build (fr : AFrame) (h : AHeap) (t : TypeId) (ps : Array (Nat × Operand)) (K : AV → AHeap → Prop) : EW P fr h (.build t ps) K = Wv (ppure P (aeval fr h.glob) (.build t ps)) h K := Wv_of
@[simp] theorem EW_binOp (fr : AFrame) (h : AHeap) (op : BinOp) (t : TypeId) (x y : Operand) (yt : TypeId) (K : AV → AHeap → Prop) : EW P fr h (.binOp op t x y yt) K = Wv (ppure P (aeval fr h.glob) (.binOp op t x y yt)) h K := Wv_of
@[simp] theorem EW_unOp (fr : AFrame) (h : AHeap) (op : UnOp) (t : TypeId) (x : Operand) (K : AV → AHeap → Prop) : EW P fr h (.unOp op t x) K = Wv (ppure P (aeval fr h.glob) (.unOp op t x)) h K := Wv_of
attribute [simp] xconv
@[simp] theorem EW_convert (fr : AFrame) (h : AHeap) (s d : TypeId) (x : Operand) (K : AV → AHeap → Prop) (hxc : xconv s d = false) : EW P fr h (.convert s d x) K = Wv (ppure P (aeval fr h.glob) (.convert s d x)) h K := by
  simp only [EW, aop, kind, hxc, cond_false]; exact Wv_of
@[simp] theorem EW_slice (fr : AFrame) (h : AHeap) (t : TypeId) (x : Operand) (lo hi mx : Option Operand) (K : AV → AHeap → Prop) : EW P fr h (.slice t x lo hi mx) K = Wv (ppure P (aeval fr h.glob) (.slice t x lo hi mx)) h K := Wv_of
@[simp] theorem EW_fieldAddr (fr : AFrame) (h : AHeap) (s : TypeId) (x : Operand) (f : Nat) (K : AV → AHeap → Prop) : EW P fr h (.fieldAddr s x f) K = Wv (ppure P (aeval fr h.glob) (.fieldAddr s x f)) h K := Wv_of
@[simp] theorem EW_field (fr : AFrame) (h : AHeap) (s : TypeId) (x : Operand) (f : Nat) (K : AV → AHeap → Prop) : EW P fr h (.field s x f) K = Wv (ppure P (aeval fr h.glob) (.field s x f)) h K := Wv_of
@[simp] theorem EW_indexAddr (fr : AFrame) (h : AHeap) (t : TypeId) (x i : Operand) (K : AV → AHeap → Prop) : EW P fr h (.indexAddr t x i) K = Wv (ppure P (aeval fr h.glob) (.indexAddr t x i)) h K := Wv_of
@[simp] theorem EW_index (fr : AFrame) (h : AHeap) (t : TypeId) (x i : Operand) (K : AV → AHeap → Prop) : EW P fr h (.index t x i) K = Wv (ppure P (aeval fr h.glob) (.index t x i)) h K := Wv_of
@[simp] theorem EW_extract (fr : AFrame) (h : AHeap) (x : Operand) (i : Nat) (K : AV → AHeap → Prop) : EW P fr h (.extract x i) K = Wv (ppure P (aeval fr h.glob) (.extract x i)) h K := Wv_of
@[simp] theorem EW_load (fr : AFrame) (h : AHeap) (t : TypeId) (x : Operand) (K : AV → AHeap → Prop) : EW P fr h (.load t x) K = Wv (pload P h (aeval fr h.glob) (.load t x)) h K := Wv_of
attribute [simp] xlen xapp
@[simp] theorem EW_len (fr : AFrame) (h : AHeap) (xs : Array Operand) (ts : Array TypeId) (K : AV → AHeap → Prop) (hxl : xlen ts.toList = false) : EW P fr h (.call ⟨.builtin .len, xs, ts⟩) K = Wv (ppure P (aeval fr h.glob) (.call ⟨.builtin .len, xs, ts⟩)) h K := by
  simp only [EW, aop, kind, hxl, cond_false]; exact Wv_of
@[simp] theorem EW_max (fr : AFrame) (h : AHeap) (xs : Array Operand) (ts : Array TypeId) (K : AV → AHeap → Prop) : EW P fr h (.call ⟨.builtin .max, xs, ts⟩) K = Wv (ppure P (aeval fr h.glob) (.call ⟨.builtin .max, xs, ts⟩)) h K := Wv_of
@[simp] theorem EW_min (fr : AFrame) (h : AHeap) (xs : Array Operand) (ts : Array TypeId) (K : AV → AHeap → Prop) : EW P fr h (.call ⟨.builtin .min, xs, ts⟩) K = Wv (ppure P (aeval fr h.glob) (.call ⟨.builtin .min, xs, ts⟩)) h K := Wv_of
/-- A new block. -/
def Wn (x : Option (TypeId × List AV × Mk)) (h : AHeap) (K : AV → AHeap → Prop) : Prop := match x with | some (e, cs, m) => K (m.abs h.next) (h.new (.cells e cs (some 0))) | none => False
omit [Orc] in
@[simp] theorem Wn_some (e : TypeId) (cs : List AV) (m : Mk) (h : AHeap) (K : AV → AHeap → Prop) : Wn (some (e, cs, m)) h K = K (m.abs h.next) (h.new (.cells e cs (some 0))) := rfl
omit [Orc] in
@[congr] theorem Wn_congr {x x' : Option (TypeId × List AV × Mk)} {h : AHeap} {K : AV → AHeap → Prop} (hx : x = x') : Wn x h K = Wn x' h K := by rw [hx]
omit [Orc] in
theorem Wn_of {x : Option (TypeId × List AV × Mk)} {h : AHeap} {K : AV → AHeap → Prop} : optP (match x with | some (e, cs, m) => some (m.abs h.next, h.new (.cells e cs (some 0))) | none => none) K = Wn x h K := by cases x <;> rfl
@[simp] theorem EW_alloc (fr : AFrame) (h : AHeap) (e : TypeId) (K : AV → AHeap → Prop) : EW P fr h (.alloc e) K = Wn (palloc P (aeval fr h.glob) (.alloc e)) h K := Wn_of
@[simp] theorem EW_box (fr : AFrame) (h : AHeap) (e : TypeId) (x : Operand) (K : AV → AHeap → Prop) : EW P fr h (.box e x) K = Wn (palloc P (aeval fr h.glob) (.box e x)) h K := Wn_of
@[simp] theorem EW_buildSlice (fr : AFrame) (h : AHeap) (t : TypeId) (n : Nat) (ps : Array (Nat × Operand)) (K : AV → AHeap → Prop) : EW P fr h (.buildSlice t n ps) K = Wn (palloc P (aeval fr h.glob) (.buildSlice t n ps)) h K := Wn_of
@[simp] theorem EW_makeSlice (fr : AFrame) (h : AHeap) (t : TypeId) (l c : Operand) (K : AV → AHeap → Prop) : EW P fr h (.makeSlice t l c) K = Wn (palloc P (aeval fr h.glob) (.makeSlice t l c)) h K := Wn_of
/-- With a heap. -/
def Wh (x : Option AHeap) (K : AV → AHeap → Prop) : Prop := match x with | some h => K (.tuple []) h | none => False
omit [Orc] in
@[simp] theorem Wh_some (h : AHeap) (K : AV → AHeap → Prop) : Wh (some h) K = K (.tuple []) h := rfl
omit [Orc] in
@[congr] theorem Wh_congr {x x' : Option AHeap} {K : AV → AHeap → Prop} (hx : x = x') : Wh x K = Wh x' K := by rw [hx]
def astore2 (P : Program) (h : AHeap) (t : TypeId) (p v : Option AV) : Option AHeap := match p, v with | some p, some v => astore P h t p v | _, _ => none
omit [Orc] in
@[simp] theorem astore2_some (h : AHeap) (t : TypeId) (p v : AV) : astore2 P h t (some p) (some v) = astore P h t p v := rfl
@[simp] theorem EW_store (fr : AFrame) (h : AHeap) (t : TypeId) (a x : Operand) (K : AV → AHeap → Prop) : EW P fr h (.store t a x) K = Wh (astore2 P h t (aeval fr h.glob a) (aeval fr h.glob x)) K := by
  simp only [EW, aop, kind, peff, astore2]
  cases aeval fr h.glob a with
  | none => rfl
  | some p =>
    cases aeval fr h.glob x with
    | none => rfl
    | some v => simp only []; cases astore P h t p v <;> rfl
def aappend2 (P : Program) (h : AHeap) (ts : List TypeId) (l : Option (List AV)) : Option (AV × AHeap) := match l with | some l => aappend P h ts l | none => none
omit [Orc] in
@[simp] theorem aappend2_some (h : AHeap) (ts : List TypeId) (l : List AV) : aappend2 P h ts (some l) = aappend P h ts l := rfl
@[simp] theorem EW_append (fr : AFrame) (h : AHeap) (xs : Array Operand) (ts : Array TypeId) (K : AV → AHeap → Prop) (hxa : xapp ts.toList = false) : EW P fr h (.call ⟨.builtin .append, xs, ts⟩) K = optP (aappend2 P h ts.toList (evs (aeval fr h.glob) xs.toList)) K := by
  simp only [EW, aop, kind, peff, aappend2, hxa, cond_false]
  cases evs (aeval fr h.glob) xs.toList <;> rfl
@[simp] theorem EW_call (fr : AFrame) (h : AHeap) (f : Operand) (xs : Array Operand) (ts : Array TypeId) (K : AV → AHeap → Prop) : EW P fr h (.call ⟨.value f, xs, ts⟩) K = CW P (aeval fr h.glob f) (evs (aeval fr h.glob) xs.toList) h K := rfl
@[congr] theorem CW_congr {f f' : Option AV} {l l' : Option (List AV)} {h : AHeap} {K : AV → AHeap → Prop} (hf : f = f') (hl : l = l') : CW P f l h K = CW P f' l' h K := by rw [hf, hl]
@[simp] theorem CW_some (g : FuncId) (cap l : List AV) (h : AHeap) (K : AV → AHeap → Prop) (hb : hasBody P g = true) : CW P (some (.func g cap)) (some l) h K = Ca P g (l ++ cap) h K := by simp [CW, hb]
theorem CW_ext {g : FuncId} {cap l : List AV} {h h' : AHeap} {K : AV → AHeap → Prop} {v : AV} (hb : hasBody P g = false) (ha : aext g (l ++ cap) h = some (v, h')) (hk : K v h') : CW P (some (.func g cap)) (some l) h K := .inr ⟨hb, v, h', ha, hk⟩

end
section
variable {P : Program}
/-! ### values -/
@[simp] theorem aeval_tmp (fr : AFrame) (g : Nat) (t : Tmp) : aeval fr g (.tmp t) = fr.get t := rfl
@[simp] theorem aeval_int (fr : AFrame) (g : Nat) (k : IntKind) (n : Int) : aeval fr g (.const (.int k n)) = some (.int k n) := rfl
@[simp] theorem aeval_bool (fr : AFrame) (g : Nat) (b : Bool) : aeval fr g (.const (.bool b)) = some (.bool b) := rfl
@[simp] theorem aeval_func (fr : AFrame) (g : Nat) (f : FuncId) : aeval fr g (.func f) = some (.func f []) := rfl
@[simp] theorem aeval_nilsl (fr : AFrame) (g : Nat) : aeval fr g (.const (.slice none 0 0)) = some .nilsl := rfl
@[simp] theorem evs_nil (ev : Operand → Option AV) : evs ev [] = some [] := rfl
def oc2 (a : Option AV) (l : Option (List AV)) : Option (List AV) := match a, l with | some a, some b => some (a :: b) | _, _ => none
@[simp] theorem evs_cons (ev : Operand → Option AV) (x : Operand) (r : List Operand) : evs ev (x :: r) = oc2 (ev x) (evs ev r) := by
  simp only [evs, oc2]
  cases ev x with
  | none => rfl
  | some v => cases evs ev r <;> rfl
@[simp] theorem oc2_some (a : AV) (l : List AV) : oc2 (some a) (some l) = some (a :: l) := rfl

/-- Every cell of the value is a plain one. -/
def allOne (v : AV) : Bool := v.cells.all AV.one
@[simp] theorem allOne_int (k : IntKind) (n : Int) : allOne (.int k n) = true := rfl
@[simp] theorem allOne_bool (b : Bool) : allOne (.bool b) = true := rfl
@[simp] theorem allOne_str (s : List UInt8) : allOne (.str s) = true := rfl
@[simp] theorem allOne_ptr (b o : Nat) : allOne (.ptr b o) = true := rfl
@[simp] theorem allOne_sl (b o z l : Nat) (c : Cap) : allOne (.sl b o z l c) = true := rfl
@[simp] theorem allOne_nilsl : allOne .nilsl = true := rfl
@[simp] theorem allOne_func (f : FuncId) (c : List AV) : allOne (.func f c) = true := rfl
@[simp] theorem allOne_agg (l : List AV) : allOne (.agg l) = l.all AV.one := rfl
@[simp] theorem all_one_ints (k : IntKind) (l : List Int) : (l.map (AV.int k)).all AV.one = true := by simp [AV.one]
@[simp] theorem one_int (k : IntKind) (n : Int) : AV.one (.int k n) = true := rfl
@[simp] theorem one_bool (b : Bool) : AV.one (.bool b) = true := rfl
@[simp] theorem one_str (s : List UInt8) : AV.one (.str s) = true := rfl
@[simp] theorem one_ptr (b o : Nat) : AV.one (.ptr b o) = true := rfl
@[simp] theorem one_sl (b o z l : Nat) (c : Cap) : AV.one (.sl b o z l c) = true := rfl
@[simp] theorem one_nilsl : AV.one .nilsl = true := rfl
@[simp] theorem cells_agg (l : List AV) : AV.cells (.agg l) = l := rfl
@[simp] theorem cells_int (k : IntKind) (n : Int) : AV.cells (.int k n) = [.int k n] := rfl
@[simp] theorem cells_bool (b : Bool) : AV.cells (.bool b) = [.bool b] := rfl
@[simp] theorem cells_nilsl : AV.cells .nilsl = [.nilsl] := rfl
@[simp] theorem cells_sl (b o z l : Nat) (c : Cap) : AV.cells (.sl b o z l c) = [.sl b o z l c] := rfl
@[simp] theorem Mk_ptr (b : Nat) : Mk.abs b .ptr = .ptr b 0 := rfl
@[simp] theorem Mk_sl (b l c : Nat) : Mk.abs b (.sl l c) = .sl b 0 0 l (.at_ c) := rfl
def box2 (e : TypeId) (x : Option AV) : Option (TypeId × List AV × Mk) := match x with | some v => if allOne v then some (e, v.cells, .ptr) else none | none => none
@[simp] theorem palloc_box (ev : Operand → Option AV) (e : TypeId) (x : Operand) : palloc P ev (.box e x) = box2 e (ev x) := rfl
@[simp] theorem box2_some {v : AV} (hv : allOne v = true) (e : TypeId) : box2 e (some v) = some (e, v.cells, .ptr) := by simp [box2, hv]
@[simp] theorem new_next (h : AHeap) (o : AObj) : (h.new o).next = h.next + 1 := rfl
@[simp] theorem set_next (h : AHeap) (b : Nat) (o : AObj) : (h.set b o).next = h.next := rfl
@[simp] theorem gdst_zero (o : Oper) (r : List Oper) : gdst (o :: r) 0 = o.dst := rfl
@[simp] theorem gdst_succ (o : Oper) (r : List Oper) (j : Nat) : gdst (o :: r) (j + 1) = gdst r j := rfl
@[simp] theorem gget_some (fr : AFrame) (d : Tmp) : gget fr (some d) = fr.get d := rfl

@[simp] theorem beq_want_t (b : Bool) : (b == true) = b := by cases b <;> rfl
@[simp] theorem beq_want_f (b : Bool) : (b == false) = !b := by cases b <;> rfl
def bin2 (P : Program) (op : BinOp) (t : TypeId) (x y : Operand) (a b : Option AV) : Option AV := match a, b with
  | some a, some b => if okEq op x y a b then pbin P op t a b else pagg P op t a b
  | _, _ => none
@[simp] theorem ppure_binOp (ev : Operand → Option AV) (op : BinOp) (t : TypeId) (x y : Operand) (yt : TypeId) : ppure P ev (.binOp op t x y yt) = bin2 P op t x y (ev x) (ev y) := rfl
section
variable (t : TypeId) (x y : Operand) (k : IntKind) (a b : Int)
@[simp] theorem bin2_lss : bin2 P .lss t x y (some (.int k a)) (some (.int k b)) = some (.bool (ilt a b)) := by simp [bin2, okEq, pbin, pint, ilt]
@[simp] theorem bin2_gtr : bin2 P .gtr t x y (some (.int k a)) (some (.int k b)) = some (.bool (ilt b a)) := by simp [bin2, okEq, pbin, pint, ilt]
@[simp] theorem bin2_leq : bin2 P .leq t x y (some (.int k a)) (some (.int k b)) = some (.bool (!ilt b a)) := by simp [bin2, okEq, pbin, pint, ilt, ← decide_not]
@[simp] theorem bin2_geq : bin2 P .geq t x y (some (.int k a)) (some (.int k b)) = some (.bool (!ilt a b)) := by simp [bin2, okEq, pbin, pint, ilt, ← decide_not]
@[simp] theorem bin2_eql : bin2 P .eql t x y (some (.int k a)) (some (.int k b)) = some (.bool (ieq a b)) := by simp [bin2, okEq, pbin, pint, ieq]
@[simp] theorem bin2_neq : bin2 P .neq t x y (some (.int k a)) (some (.int k b)) = some (.bool (!ieq a b)) := by simp [bin2, okEq, pbin, pint, ieq, bne]
@[simp] theorem bin2_add : bin2 P .add t x y (some (.int k a)) (some (.int k b)) = some (.int k (k.wrap (a + b))) := by simp [bin2, okEq, pbin, pint]
@[simp] theorem bin2_sub : bin2 P .sub t x y (some (.int k a)) (some (.int k b)) = some (.int k (k.wrap (a - b))) := by simp [bin2, okEq, pbin, pint]
@[simp] theorem bin2_mul : bin2 P .mul t x y (some (.int k a)) (some (.int k b)) = some (.int k (k.wrap (a * b))) := by simp [bin2, okEq, pbin, pint]
end
def pick2 (c a b : Option AV) : Option AV := match c with | some (.bool t) => if t then a else b | _ => none
@[simp] theorem ppure_pick (ev : Operand → Option AV) (c a b : Operand) : ppure P ev (.pick c a b) = pick2 (ev c) (ev a) (ev b) := rfl
@[simp] theorem pick2_t (a b : Option AV) : pick2 (some (.bool true)) a b = a := rfl
@[simp] theorem pick2_f (a b : Option AV) : pick2 (some (.bool false)) a b = b := rfl
/-- The two ways of a disjunction, and of a conjunction. -/
@[simp] theorem pick2_or (c d : Bool) : pick2 (some (.bool c)) (some (.bool true)) (some (.bool d)) = some (.bool (c || d)) := by cases c <;> rfl
@[simp] theorem pick2_and (c d : Bool) : pick2 (some (.bool c)) (some (.bool d)) (some (.bool false)) = some (.bool (c && d)) := by cases c <;> rfl
def un2 (op : UnOp) (a : Option AV) : Option AV := match a with | some a => puna op a | none => none
@[simp] theorem ppure_unOp (ev : Operand → Option AV) (op : UnOp) (t : TypeId) (x : Operand) : ppure P ev (.unOp op t x) = un2 op (ev x) := rfl
@[simp] theorem un2_not (b : Bool) : un2 .not (some (.bool b)) = some (.bool !b) := rfl
def fa2 (P : Program) (s : TypeId) (f : Nat) (a : Option AV) : Option AV := match a with | some a => pfieldAddr P s a f | none => none
@[simp] theorem ppure_fieldAddr (ev : Operand → Option AV) (s : TypeId) (x : Operand) (f : Nat) : ppure P ev (.fieldAddr s x f) = fa2 P s f (ev x) := rfl
@[simp] theorem fa2_some (s : TypeId) (f : Nat) (a : AV) : fa2 P s f (some a) = pfieldAddr P s a f := rfl
def ia2 (P : Program) (t : TypeId) (a b : Option AV) : Option AV := match a, b with | some a, some b => pindexAddr P t a b | _, _ => none
@[simp] theorem ppure_indexAddr (ev : Operand → Option AV) (t : TypeId) (x i : Operand) : ppure P ev (.indexAddr t x i) = ia2 P t (ev x) (ev i) := rfl
@[simp] theorem ia2_some (t : TypeId) (a b : AV) : ia2 P t (some a) (some b) = pindexAddr P t a b := rfl
def ix2 (P : Program) (t : TypeId) (a b : Option AV) : Option AV := match a, b with | some a, some b => pindex P t a b | _, _ => none
@[simp] theorem ppure_index (ev : Operand → Option AV) (t : TypeId) (x i : Operand) : ppure P ev (.index t x i) = ix2 P t (ev x) (ev i) := rfl
@[simp] theorem ix2_some (t : TypeId) (a b : AV) : ix2 P t (some a) (some b) = pindex P t a b := rfl
def ex2 (i : Nat) (a : Option AV) : Option AV := match a with | some a => pextract a i | none => none
@[simp] theorem ppure_extract (ev : Operand → Option AV) (x : Operand) (i : Nat) : ppure P ev (.extract x i) = ex2 i (ev x) := rfl
def ld2 (P : Program) (h : AHeap) (t : TypeId) (a : Option AV) : Option AV := match a with | some a => aload P h t a | none => none
@[simp] theorem pload_load (h : AHeap) (ev : Operand → Option AV) (t : TypeId) (x : Operand) : pload P h ev (.load t x) = ld2 P h t (ev x) := rfl
@[simp] theorem ld2_some (h : AHeap) (t : TypeId) (a : AV) : ld2 P h t (some a) = aload P h t a := rfl
/-- A load from known cells. -/
def atCells (P : Program) (t : TypeId) (x : AObj) (o : Nat) : Option AV := match x with
  | .cells _ cs _ => match isAggT P t with
    | some true => match tsz P t with
      | some n => if o + n ≤ cs.length then some (.agg ((cs.drop o).take n)) else none
      | none => none
    | some false => cs[o]?
    | none => none
  | _ => none
@[simp] theorem aload_ptr (h : AHeap) (t : TypeId) (b o : Nat) : aload P h t (.ptr b o) = atCells P t (h.get b) o := by
  simp only [aload, atCells]
  cases h.get b <;> rfl
theorem atCells_one {t : TypeId} (ht : isAggT P t = some false) (ty : TypeId) (cs : List AV) (wr : Option Nat) (o : Nat) : atCells P t (.cells ty cs wr) o = cs[o]? := by simp [atCells, ht]
theorem atCells_agg {t : TypeId} {n : Nat} (ht : isAggT P t = some true) (hs : tsz P t = some n) (ty : TypeId) (cs : List AV) (wr : Option Nat) (o : Nat) : atCells P t (.cells ty cs wr) o = if o + n ≤ cs.length then some (.agg ((cs.drop o).take n)) else none := by simp [atCells, ht, hs]
def len2 (P : Program) (ts : List TypeId) (l : Option (List AV)) : Option AV := match l with | some l => pbuiltin P .len ts l | none => none

@[simp] theorem ppure_len (ev : Operand → Option AV) (xs : Array Operand) (ts : Array TypeId) : ppure P ev (.call ⟨.builtin .len, xs, ts⟩) = len2 P ts.toList (evs ev xs.toList) := rfl
@[simp] theorem len2_some (t : TypeId) (r : List TypeId) (x : AV) : len2 P (t :: r) (some [x]) = plen P t x := rfl
def max2 (l : Option (List AV)) : Option AV := match l with | some l => pminmax true l | none => none
@[simp] theorem ppure_max (ev : Operand → Option AV) (xs : Array Operand) (ts : Array TypeId) : ppure P ev (.call ⟨.builtin .max, xs, ts⟩) = max2 (evs ev xs.toList) := rfl

@[simp] theorem ares_nil (fr : AFrame) (h : AHeap) : ares P fr h [] = some [] := rfl
@[simp] theorem ares_tmp (fr : AFrame) (h : AHeap) (t : Tmp) (r : List ResultVar) : ares P fr h (.tmp t :: r) = oc2 (fr.get t) (ares P fr h r) := by
  simp only [ares, oc2]
  cases fr.get t with
  | none => rfl
  | some v => cases ares P fr h r <;> rfl
@[simp] theorem ares_cell (fr : AFrame) (h : AHeap) (a : Tmp) (t : TypeId) (r : List ResultVar) : ares P fr h (.cell a t :: r) = oc2 (ld2 P h t (fr.get a)) (ares P fr h r) := by
  simp only [ares, oc2, ld2]
  cases fr.get a with
  | none => rfl
  | some v =>
    simp only []
    cases aload P h t v with
    | none => rfl
    | some u => cases ares P fr h r <;> rfl
@[simp] theorem ares1_one (v : AV) : ares1 [v] = v := rfl
@[simp] theorem ares1_two (v u : AV) (r : List AV) : ares1 (v :: u :: r) = .tuple (v :: u :: r) := rfl
@[simp] theorem pextract_tuple (l : List AV) (i : Nat) : pextract (.tuple l) i = l[i]? := rfl
@[simp] theorem ex2_some (i : Nat) (a : AV) : ex2 i (some a) = pextract a i := rfl

/-- Only blocks are added. -/
def Pres (h h' : AHeap) : Prop := h.next ≤ h'.next ∧ ∀ b, b < h.next → h'.get b = h.get b
theorem Pres.refl (h : AHeap) : Pres h h := ⟨Nat.le_refl _, fun _ _ => rfl⟩
theorem Pres.trans {a b c : AHeap} (x : Pres a b) (y : Pres b c) : Pres a c := ⟨Nat.le_trans x.1 y.1, fun k hk => by rw [y.2 k (Nat.lt_of_lt_of_le hk x.1), x.2 k hk]⟩
theorem Pres.new {a b : AHeap} (x : Pres a b) (o : AObj) : Pres a (b.new o) := ⟨Nat.le_succ_of_le x.1, fun k hk => by
  rw [AHeap.get_new, if_neg (by have := x.1; omega), x.2 k hk]⟩
theorem Pres.set {a b : AHeap} (x : Pres a b) {k : Nat} (hk : a.next ≤ k) (o : AObj) : Pres a (b.set k o) := ⟨x.1, fun j hj => by
  rw [AHeap.get_set, if_neg (by omega), x.2 j hj]⟩
end
section
variable {P : Program} [Orc]
/-- A cut. -/
theorem AW_cut {c : Code} {fr : AFrame} {h : AHeap} {Q Q' : AEx → AFrame → AHeap → Prop} (h1 : AW P c fr h Q') (h2 : ∀ e fr h, Q' e fr h → Q e fr h) : AW P c fr h Q := AW_mono _ _ _ _ _ h1 h2
theorem AW_cut_n {c : Code} {fr : AFrame} {h : AHeap} {Q : AEx → AFrame → AHeap → Prop} (R : AFrame → AHeap → Prop) (h1 : AW P c fr h fun e fr h => e = .normal ∧ R fr h) (h2 : ∀ fr h, R fr h → Q .normal fr h) : AW P c fr h Q :=
  AW_mono _ _ _ _ _ h1 fun e fr h ⟨he, hr⟩ => by subst he; exact h2 fr h hr
theorem OW_cut {ops : Array Oper} {l : List Oper} {fr : AFrame} {h : AHeap} {K : AFrame → AHeap → Prop} (R : AFrame → AHeap → Prop) (h1 : OW P ops l fr h R) (h2 : ∀ fr h, R fr h → K fr h) : OW P ops l fr h K := OW_mono _ _ _ _ _ h1 h2
/-- The two ways of a condition. -/
def CB (P : Program) [Orc] (c : Option AV) (x y : Code) (fr : AFrame) (h : AHeap) (Q : AEx → AFrame → AHeap → Prop) : Prop := match c with
  | some (.bool b) => Br b (AW P x fr h Q) (AW P y fr h Q) .mk .mk
  | _ => False
@[congr] theorem CB_congr {c c' : Option AV} {x y : Code} {fr : AFrame} {h : AHeap} {Q : AEx → AFrame → AHeap → Prop} (hc : c = c') : CB P c x y fr h Q = CB P c' x y fr h Q := by rw [hc]
@[simp] theorem CB_bool (b : Bool) (x y : Code) (fr : AFrame) (h : AHeap) (Q : AEx → AFrame → AHeap → Prop) : CB P (some (.bool b)) x y fr h Q = Br b (AW P x fr h Q) (AW P y fr h Q) .mk .mk := rfl
@[simp] theorem AW_cond_eq (c : Operand) (x y : Code) (fr : AFrame) (h : AHeap) (Q : AEx → AFrame → AHeap → Prop) : AW P (.cond c x y) fr h Q = CB P (aeval fr h.glob c) x y fr h Q := by
  have e : AW P (.cond c x y) fr h Q = (match aeval fr h.glob c with
    | some (.bool b) => match b with
      | true => AW P x fr h Q
      | false => AW P y fr h Q
    | _ => False) := rfl
  rw [e]
  unfold CB
  cases aeval fr h.glob c with
  | none => rfl
  | some v => cases v with
    | bool b => cases b <;> simp
    | _ => rfl
end
attribute [irreducible] SG Wv Wn Wh CB Br
end Go.Eng
