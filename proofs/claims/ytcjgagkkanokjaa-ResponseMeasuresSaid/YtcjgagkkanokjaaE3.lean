/- The engine, part 3: the operations that look at no memory. -/
import Derived.Test.YtcjgagkkanokjaaE2
namespace Go.Eng

/-! ### types -/
def tsz (P : Program) (t : TypeId) : Option Nat := match P.info? t with | some i => some i.size | none => none
def tbytes (P : Program) (t : TypeId) : Option Nat := match P.info? t with | some i => some i.bytes | none => none
def isAggT (P : Program) (t : TypeId) : Option Bool :=
  match P.underlying t with
  | some (.struct _) | some (.array _ _) => some true
  | some _ => some false
  | none => none
theorem run_sizeOf_tsz {P : Program} {t : TypeId} {n : Nat} (h : tsz P t = some n) (w : World) : (sizeOf t).run P w = .ok n w := by
  unfold tsz at h
  cases hi : P.info? t with
  | none => simp [hi] at h
  | some i => simp [hi] at h; subst h; simp [sizeOf, typeInfo, hi]
theorem run_isAggT {P : Program} {t : TypeId} {b : Bool} (h : isAggT P t = some b) (w : World) : (isAgg t).run P w = .ok b w := by
  unfold isAggT at h
  cases hu : P.underlying t with
  | none => simp [hu] at h
  | some d => cases d <;> simp [hu] at h <;> subst h <;> simp [isAgg, run_underlying hu]
theorem cellsOf_tsz {P : Program} {t : TypeId} {n : Nat} (h : tsz P t = some n) : P.cellsOf t = n := by
  unfold tsz at h
  cases hi : P.info? t with
  | none => simp [hi] at h
  | some i => simp [hi] at h; subst h; simp [Program.cellsOf, hi]

/-! ### constants -/
def ofScalar : Value → Option AV
  | .bool b => some (.bool b)
  | .int k n => some (.int k n)
  | .string s => some (.str s.data.toList)
  | .pointer none => some .nilptr
  | .slice none 0 0 => some .nilsl
  | .map none => some .nilmap
  | .nilFunc => some .nilFunc
  | .nilIface => some .nilIface
  | _ => none
def ofScalars : List Value → Option (List AV)
  | [] => some []
  | v :: r => match ofScalar v, ofScalars r with | some a, some b => some (a :: b) | _, _ => none
def ofValue : Value → Option AV
  | .agg cs => match ofScalars cs.toList with | some l => some (.agg l) | none => none
  | .tuple cs => match ofScalars cs.toList with | some l => some (.tuple l) | none => none
  | v => ofScalar v
theorem conc_ofScalar {ρ : Rho} {v : Value} {a : AV} (h : ofScalar v = some a) : conc ρ a = some v := by
  unfold ofScalar at h
  split at h <;> cases h <;> simp [conc]
theorem concs_ofScalars {ρ : Rho} : ∀ (l : List Value) (x : List AV), ofScalars l = some x → concs ρ x = some l
  | [], x, h => by simp [ofScalars] at h; subst h; rfl
  | v :: r, x, h => by
    simp only [ofScalars] at h
    cases hv : ofScalar v with
    | none => simp [hv] at h
    | some a =>
      cases hr : ofScalars r with
      | none => simp [hv, hr] at h
      | some b =>
        simp [hv, hr] at h
        subst h
        exact concs_cons_mk (conc_ofScalar hv) (concs_ofScalars r b hr)
theorem conc_ofValue {ρ : Rho} {v : Value} {a : AV} (h : ofValue v = some a) : conc ρ a = some v := by
  unfold ofValue at h
  split at h
  · rename_i cs
    cases hl : ofScalars cs.toList with
    | none => simp [hl] at h
    | some l => simp [hl] at h; subst h; simp [conc, concs_ofScalars _ _ hl]
  · rename_i cs
    cases hl : ofScalars cs.toList with
    | none => simp [hl] at h
    | some l => simp [hl] at h; subst h; simp [conc, concs_ofScalars _ _ hl]
  · exact conc_ofScalar h

/-! ### a part of an aggregate -/
def apart (P : Program) (t : TypeId) (cs : List AV) (off : Nat) : Option AV :=
  match isAggT P t with
  | some true => match tsz P t with
    | some n => if off + n ≤ cs.length then some (.agg ((cs.drop off).take n)) else none
    | none => none
  | some false => cs[off]?
  | none => none
theorem apart_sound {P : Program} {ρ : Rho} {t : TypeId} {cs : List AV} {off : Nat} {v : AV} {xs : List Value} (h : apart P t cs off = some v) (hx : concs ρ cs = some xs) :
    ∃ c, conc ρ v = some c ∧ ∀ w, (part t xs.toArray off).run P w = .ok c w := by
  unfold apart at h
  cases ha : isAggT P t with
  | none => simp [ha] at h
  | some b =>
    cases b with
    | true =>
      simp only [ha] at h
      cases hn : tsz P t with
      | none => simp [hn] at h
      | some n =>
        simp only [hn] at h
        split at h
        · cases h
          refine ⟨.agg ((xs.drop off).take n).toArray, by simp only [conc, concs_take n _ _ (concs_drop off _ _ hx)], fun w => ?_⟩
          simp [part, run_isAggT ha, run_sizeOf_tsz hn]
        · cases h
    | false =>
      simp only [ha] at h
      obtain ⟨c, hc, hv⟩ := concs_get cs xs off v hx h
      exact ⟨c, hv, fun w => by simp [part, run_isAggT ha, hc]⟩

/-! ### integers -/
def pint (op : BinOp) (k : IntKind) (a b : Int) : Option AV :=
  match op with
  | .add => some (.int k (k.wrap (a + b)))
  | .sub => some (.int k (k.wrap (a - b)))
  | .mul => some (.int k (k.wrap (a * b)))
  | .quo => if b = 0 then none else some (.int k (k.wrap (a.tdiv b)))
  | .rem => if b = 0 then none else some (.int k (a.tmod b))
  | .and => some (.int k (k.wrap (BitVec.ofInt k.bits a &&& BitVec.ofInt k.bits b).toNat))
  | .or => some (.int k (k.wrap (BitVec.ofInt k.bits a ||| BitVec.ofInt k.bits b).toNat))
  | .xor => some (.int k (k.wrap (BitVec.ofInt k.bits a ^^^ BitVec.ofInt k.bits b).toNat))
  | .andNot => some (.int k (k.wrap (BitVec.ofInt k.bits a &&& ~~~BitVec.ofInt k.bits b).toNat))
  | .eql => some (.bool (a == b))
  | .neq => some (.bool (a != b))
  | .lss => some (.bool (decide (a < b)))
  | .leq => some (.bool (decide (a ≤ b)))
  | .gtr => some (.bool (decide (a > b)))
  | .geq => some (.bool (decide (a ≥ b)))
  | .shl | .shr => none
def pshift (op : BinOp) (k : IntKind) (a b : Int) : Option AV :=
  if b < 0 then none else
  match op with
  | .shl => some (.int k (k.wrap (a * 2 ^ (min b.toNat k.bits))))
  | .shr => some (.int k (a.fdiv (2 ^ (min b.toNat k.bits))))
  | _ => none
def pstr (op : BinOp) (x y : List UInt8) : Option AV :=
  match op with
  | .add => if ((x.length + y.length : Nat) : Int) > IntKind.i64.max then none else some (.str (x ++ y))
  | .eql => some (.bool (x == y))
  | .neq => some (.bool !(x == y))
  | .lss => some (.bool (Op.bytesLess x y))
  | .leq => some (.bool (Op.bytesLess x y || x == y))
  | .gtr => some (.bool !(Op.bytesLess x y || x == y))
  | .geq => some (.bool !(Op.bytesLess x y))
  | _ => none

/-- '==' on two values. -/
def aeq (P : Program) (t : TypeId) (x y : AV) : Option Bool :=
  match P.underlying t, x, y with
  | some .bool, .bool a, .bool b => some (a == b)
  | some (.pointer _), .nilptr, .nilptr => some true
  | some (.pointer _), .nilptr, .ptr _ _ => some false
  | some (.pointer _), .ptr _ _, .nilptr => some false
  | some (.pointer e), .ptr b o, .ptr b' o' => match tsz P e with
    | some n => if n = 0 then none else if b = b' then some (o == o') else none
    | none => none
  | some (.interface _), .nilIface, .nilIface => some true
  | some (.interface _), .nilIface, .iface _ _ => some false
  | some (.interface _), .iface _ _, .nilIface => some false
  | some (.slice _), .nilsl, .nilsl => some true
  | some (.slice _), .nilsl, .sl _ _ _ _ _ => some false
  | some (.slice _), .sl _ _ _ _ _, .nilsl => some false
  | some (.map _ _), .nilmap, .nilmap => some true
  | some (.map _ _), .nilmap, .map _ => some false
  | some (.map _ _), .map _, .nilmap => some false
  | some (.func _ _ _), .nilFunc, .nilFunc => some true
  | some (.func _ _ _), .nilFunc, .func _ _ => some false
  | some (.func _ _ _), .func _ _, .nilFunc => some false
  | _, _, _ => none

theorem equalIn_of_aeq {P : Program} {ρ : Rho} {t : TypeId} {x y : AV} {b : Bool} (h : aeq P t x y = some b) {cx cy : Value} (hx : conc ρ x = some cx) (hy : conc ρ y = some cy) (d : Nat) (w : World) :
    (Op.equalIn (d + 1) t cx cy).run P w = .ok b w := by
  unfold aeq at h
  have slc : ∀ {b o z len : Nat} {cap : Cap} {c : Value}, conc ρ (.sl b o z len cap) = some c → ∃ a l k, c = .slice (some a) l k := by
    intro b o z len cap c hc
    simp only [conc] at hc
    split at hc
    · obtain ⟨_, rfl⟩ := slVal_some hc; exact ⟨_, _, _, rfl⟩
    · cases hc
  have mp : ∀ {b : Nat} {c : Value}, conc ρ (.map b) = some c → ∃ r, c = .map (some r) := by
    intro b c hc; simp only [conc] at hc; split at hc <;> cases hc; exact ⟨_, rfl⟩
  have fn : ∀ {f : FuncId} {l : List AV} {c : Value}, conc ρ (.func f l) = some c → ∃ a b, c = .func (.func f) a b := by
    intro f l c hc; simp only [conc] at hc; split at hc <;> cases hc; exact ⟨_, _, rfl⟩
  have ifc : ∀ {t : TypeId} {v : AV} {c : Value}, conc ρ (.iface t v) = some c → ∃ a, c = .iface t a := by
    intro t v c hc; simp only [conc] at hc; split at hc <;> cases hc; exact ⟨_, rfl⟩
  have ptr : ∀ {b o : Nat} {c : Value}, conc ρ (.ptr b o) = some c → ∃ pl, ρ b = some pl ∧ c = .pointer (some ⟨pl.blk, pl.off + o, none⟩) := by
    intro b o c hc
    simp only [conc] at hc
    cases hb : ρ b with
    | none => simp [hb] at hc
    | some pl => simp [hb] at hc; exact ⟨pl, rfl, hc.symm⟩
  split at h
  case h_5 e b1 o1 b2 o2 hu =>
    cases hn : tsz P e with
    | none => simp [hn] at h
    | some n =>
      simp only [hn] at h
      split at h
      · cases h
      · rename_i hn0
        split at h
        · rename_i hbb
          subst hbb
          cases h
          obtain ⟨pl, hp, rfl⟩ := ptr hx
          obtain ⟨pl', hp', rfl⟩ := ptr hy
          rw [hp] at hp'; cases hp'
          simp only [Op.equalIn, Sem.run_bind, run_underlying hu, Result.andThen_ok, run_sizeOf_tsz hn, ne_eq, hn0, not_false_eq_true, if_true, sameAddr, beq_self_eq_true, Sem.run_pure]
          congr 1
          rw [Bool.eq_iff_iff]
          simp
        · cases h
  all_goals
    rename_i hu
    (try (cases h))
    (try (obtain ⟨_, rfl⟩ := ifc hx)); (try (obtain ⟨_, rfl⟩ := ifc hy))
    (try (obtain ⟨_, rfl⟩ := mp hx)); (try (obtain ⟨_, rfl⟩ := mp hy))
    (try (obtain ⟨_, _, rfl⟩ := fn hx)); (try (obtain ⟨_, _, rfl⟩ := fn hy))
    (try (obtain ⟨_, _, rfl⟩ := ptr hx)); (try (obtain ⟨_, _, rfl⟩ := ptr hy))
    (try (obtain ⟨_, _, _, rfl⟩ := slc hx)); (try (obtain ⟨_, _, _, rfl⟩ := slc hy))
    (try (simp only [conc, Option.some.injEq] at hx; subst hx)); (try (simp only [conc, Option.some.injEq] at hy; subst hy))
    (first | (simp [Op.equalIn, run_underlying hu]; done) | skip)

def pbin (P : Program) (op : BinOp) (t : TypeId) (x y : AV) : Option AV :=
  match op, x, y with
  | .shl, .int k a, .int _ b | .shr, .int k a, .int _ b => pshift op k a b
  | _, .int k a, .int k' b => if k = k' then pint op k a b else none
  | _, .str a, .str b => pstr op a b
  | .eql, x, y => match aeq P t x y with | some b => some (.bool b) | none => none
  | .neq, x, y => match aeq P t x y with | some b => some (.bool !b) | none => none
  | _, _, _ => none

end Go.Eng
