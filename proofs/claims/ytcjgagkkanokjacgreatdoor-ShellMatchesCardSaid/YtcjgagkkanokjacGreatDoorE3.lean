/- The engine, part 3: the operations that look at no memory. -/
import Derived.Test.YtcjgagkkanokjacGreatDoorE1
namespace Go.Eng

/-! ### types -/
def tsz (P : Program) (t : TypeId) : Option Nat := match P.info? t with | some i => some i.size | none => none
def tbytes (P : Program) (t : TypeId) : Option Nat := match P.info? t with | some i => some i.bytes | none => none
def isAggT (P : Program) (t : TypeId) : Option Bool :=
  match P.underlying t with
  | some (.struct _) | some (.array _ _) => some true
  | some _ => some false
  | none => none
theorem run_sizeOf_tsz {P : Program} {t : TypeId} {n : Nat} (h : tsz P t = some n) (w : World) : (sizeOf t).run P w = .ok n w := by
  unfold tsz at h
  cases hi : P.info? t with
  | none => simp [hi] at h
  | some i => simp [hi] at h; subst h; simp [sizeOf, typeInfo, hi]
theorem run_isAggT {P : Program} {t : TypeId} {b : Bool} (h : isAggT P t = some b) (w : World) : (isAgg t).run P w = .ok b w := by
  unfold isAggT at h
  cases hu : P.underlying t with
  | none => simp [hu] at h
  | some d => cases d <;> simp [hu] at h <;> subst h <;> simp [isAgg, run_underlying hu]
theorem cellsOf_tsz {P : Program} {t : TypeId} {n : Nat} (h : tsz P t = some n) : P.cellsOf t = n := by
  unfold tsz at h
  cases hi : P.info? t with
  | none => simp [hi] at h
  | some i => simp [hi] at h; subst h; simp [Program.cellsOf, hi]

/-! ### constants -/
def ofScalar : Value → Option AV
  | .bool b => some (.bool b)
  | .int k n => some (.int k n)
  | .string s => some (.str s.data.toList)
  | .pointer none => some .nilptr
  | .slice none 0 0 => some .nilsl
  | .map none => some .nilmap
  | .nilFunc => some .nilFunc
  | .nilIface => some .nilIface
  | _ => none
def ofScalars : List Value → Option (List AV)
  | [] => some []
  | v :: r => match ofScalar v, ofScalars r with | some a, some b => some (a :: b) | _, _ => none
def ofValue : Value → Option AV
  | .agg cs => match ofScalars cs.toList with | some l => some (.agg l) | none => none
  | .tuple cs => match ofScalars cs.toList with | some l => some (.tuple l) | none => none
  | v => ofScalar v
theorem conc_ofScalar {ρ : Rho} {v : Value} {a : AV} (h : ofScalar v = some a) : conc ρ a = some v := by
  unfold ofScalar at h
  split at h <;> cases h <;> simp [conc]
theorem concs_ofScalars {ρ : Rho} : ∀ (l : List Value) (x : List AV), ofScalars l = some x → concs ρ x = some l
  | [], x, h => by simp [ofScalars] at h; subst h; rfl
  | v :: r, x, h => by
    simp only [ofScalars] at h
    cases hv : ofScalar v with
    | none => simp [hv] at h
    | some a =>
      cases hr : ofScalars r with
      | none => simp [hv, hr] at h
      | some b =>
        simp [hv, hr] at h
        subst h
        exact concs_cons_mk (conc_ofScalar hv) (concs_ofScalars r b hr)
theorem conc_ofValue {ρ : Rho} {v : Value} {a : AV} (h : ofValue v = some a) : conc ρ a = some v := by
  unfold ofValue at h
  split at h
  · rename_i cs
    cases hl : ofScalars cs.toList with
    | none => simp [hl] at h
    | some l => simp [hl] at h; subst h; simp [conc, concs_ofScalars _ _ hl]
  · rename_i cs
    cases hl : ofScalars cs.toList with
    | none => simp [hl] at h
    | some l => simp [hl] at h; subst h; simp [conc, concs_ofScalars _ _ hl]
  · exact conc_ofScalar h

/-! ### a part of an aggregate -/
def apart (P : Program) (t : TypeId) (cs : List AV) (off : Nat) : Option AV :=
  match isAggT P t with
  | some true => match tsz P t with
    | some n => if off + n ≤ cs.length then some (.agg ((cs.drop off).take n)) else none
    | none => none
  | some false => cs[off]?
  | none => none
theorem apart_sound {P : Program} {ρ : Rho} {t : TypeId} {cs : List AV} {off : Nat} {v : AV} {xs : List Value} (h : apart P t cs off = some v) (hx : concs ρ cs = some xs) :
    ∃ c, conc ρ v = some c ∧ ∀ w, (part t xs.toArray off).run P w = .ok c w := by
  unfold apart at h
  cases ha : isAggT P t with
  | none => simp [ha] at h
  | some b =>
    cases b with
    | true =>
      simp only [ha] at h
      cases hn : tsz P t with
      | none => simp [hn] at h
      | some n =>
        simp only [hn] at h
        split at h
        · cases h
          refine ⟨.agg ((xs.drop off).take n).toArray, by simp only [conc, concs_take n _ _ (concs_drop off _ _ hx)], fun w => ?_⟩
          simp [part, run_isAggT ha, run_sizeOf_tsz hn]
        · cases h
    | false =>
      simp only [ha] at h
      obtain ⟨c, hc, hv⟩ := concs_get cs xs off v hx h
      exact ⟨c, hv, fun w => by simp [part, run_isAggT ha, hc]⟩

/-! ### integers -/
def pint (op : BinOp) (k : IntKind) (a b : Int) : Option AV :=
  match op with
  | .add => some (.int k (k.wrap (a + b)))
  | .sub => some (.int k (k.wrap (a - b)))
  | .mul => some (.int k (k.wrap (a * b)))
  | .quo => if b = 0 then none else some (.int k (k.wrap (a.tdiv b)))
  | .rem => if b = 0 then none else some (.int k (a.tmod b))
  | .and => some (.int k (k.wrap (BitVec.ofInt k.bits a &&& BitVec.ofInt k.bits b).toNat))
  | .or => some (.int k (k.wrap (BitVec.ofInt k.bits a ||| BitVec.ofInt k.bits b).toNat))
  | .xor => some (.int k (k.wrap (BitVec.ofInt k.bits a ^^^ BitVec.ofInt k.bits b).toNat))
  | .andNot => some (.int k (k.wrap (BitVec.ofInt k.bits a &&& ~~~BitVec.ofInt k.bits b).toNat))
  | .eql => some (.bool (a == b))
  | .neq => some (.bool (a != b))
  | .lss => some (.bool (decide (a < b)))
  | .leq => some (.bool (decide (a ≤ b)))
  | .gtr => some (.bool (decide (a > b)))
  | .geq => some (.bool (decide (a ≥ b)))
  | .shl | .shr => none
def pshift (op : BinOp) (k : IntKind) (a b : Int) : Option AV :=
  if b < 0 then none else
  match op with
  | .shl => some (.int k (k.wrap (a * 2 ^ (min b.toNat k.bits))))
  | .shr => some (.int k (a.fdiv (2 ^ (min b.toNat k.bits))))
  | _ => none
def pstr (op : BinOp) (x y : List UInt8) : Option AV :=
  match op with
  | .add => if ((x.length + y.length : Nat) : Int) > IntKind.i64.max then none else some (.str (x ++ y))
  | .eql => some (.bool (x == y))
  | .neq => some (.bool !(x == y))
  | .lss => some (.bool (Op.bytesLess x y))
  | .leq => some (.bool (Op.bytesLess x y || x == y))
  | .gtr => some (.bool !(Op.bytesLess x y || x == y))
  | .geq => some (.bool !(Op.bytesLess x y))
  | _ => none

/-- '==' on two values. -/
def aeq (P : Program) (t : TypeId) (x y : AV) : Option Bool :=
  match P.underlying t, x, y with
  | some .bool, .bool a, .bool b => some (a == b)
  | some (.pointer _), .nilptr, .nilptr => some true
  | some (.pointer _), .nilptr, .ptr _ _ => some false
  | some (.pointer _), .ptr _ _, .nilptr => some false
  | some (.pointer e), .ptr b o, .ptr b' o' => match tsz P e with
    | some n => if n = 0 then none else if b = b' then some (o == o') else none
    | none => none
  | some (.interface _), .nilIface, .nilIface => some true
  | some (.interface _), .nilIface, .iface _ _ => some false
  | some (.interface _), .iface _ _, .nilIface => some false
  | some (.slice _), .nilsl, .nilsl => some true
  | some (.slice _), .nilsl, .sl _ _ _ _ _ => some false
  | some (.slice _), .sl _ _ _ _ _, .nilsl => some false
  | some (.map _ _), .nilmap, .nilmap => some true
  | some (.map _ _), .nilmap, .map _ => some false
  | some (.map _ _), .map _, .nilmap => some false
  | some (.func _ _ _), .nilFunc, .nilFunc => some true
  | some (.func _ _ _), .nilFunc, .func _ _ => some false
  | some (.func _ _ _), .func _ _, .nilFunc => some false
  | _, _, _ => none

theorem equalIn_of_aeq {P : Program} {ρ : Rho} {t : TypeId} {x y : AV} {b : Bool} (h : aeq P t x y = some b) {cx cy : Value} (hx : conc ρ x = some cx) (hy : conc ρ y = some cy) (d : Nat) (w : World) :
    (Op.equalIn (d + 1) t cx cy).run P w = .ok b w := by
  unfold aeq at h
  have slc : ∀ {b o z len : Nat} {cap : Cap} {c : Value}, conc ρ (.sl b o z len cap) = some c → ∃ a l k, c = .slice (some a) l k := by
    intro b o z len cap c hc
    simp only [conc] at hc
    split at hc
    · obtain ⟨_, rfl⟩ := slVal_some hc; exact ⟨_, _, _, rfl⟩
    · cases hc
  have mp : ∀ {b : Nat} {c : Value}, conc ρ (.map b) = some c → ∃ r, c = .map (some r) := by
    intro b c hc; simp only [conc] at hc; split at hc <;> cases hc; exact ⟨_, rfl⟩
  have fn : ∀ {f : FuncId} {l : List AV} {c : Value}, conc ρ (.func f l) = some c → ∃ a b, c = .func (.func f) a b := by
    intro f l c hc; simp only [conc] at hc; split at hc <;> cases hc; exact ⟨_, _, rfl⟩
  have ifc : ∀ {t : TypeId} {v : AV} {c : Value}, conc ρ (.iface t v) = some c → ∃ a, c = .iface t a := by
    intro t v c hc; simp only [conc] at hc; split at hc <;> cases hc; exact ⟨_, rfl⟩
  have ptr : ∀ {b o : Nat} {c : Value}, conc ρ (.ptr b o) = some c → ∃ pl, ρ b = some pl ∧ c = .pointer (some ⟨pl.blk, pl.off + o, none⟩) := by
    intro b o c hc
    simp only [conc] at hc
    cases hb : ρ b with
    | none => simp [hb] at hc
    | some pl => simp [hb] at hc; exact ⟨pl, rfl, hc.2.symm⟩
  split at h
  case h_5 e b1 o1 b2 o2 hu =>
    cases hn : tsz P e with
    | none => simp [hn] at h
    | some n =>
      simp only [hn] at h
      split at h
      · cases h
      · rename_i hn0
        split at h
        · rename_i hbb
          subst hbb
          cases h
          obtain ⟨pl, hp, rfl⟩ := ptr hx
          obtain ⟨pl', hp', rfl⟩ := ptr hy
          rw [hp] at hp'; cases hp'
          simp only [Op.equalIn, Sem.run_bind, run_underlying hu, Result.andThen_ok, run_sizeOf_tsz hn, ne_eq, hn0, not_false_eq_true, if_true, sameAddr, beq_self_eq_true, Sem.run_pure]
          congr 1
          rw [Bool.eq_iff_iff]
          simp
        · cases h
  all_goals
    rename_i hu
    (try (cases h))
    (try (obtain ⟨_, rfl⟩ := ifc hx)); (try (obtain ⟨_, rfl⟩ := ifc hy))
    (try (obtain ⟨_, rfl⟩ := mp hx)); (try (obtain ⟨_, rfl⟩ := mp hy))
    (try (obtain ⟨_, _, rfl⟩ := fn hx)); (try (obtain ⟨_, _, rfl⟩ := fn hy))
    (try (obtain ⟨_, _, rfl⟩ := ptr hx)); (try (obtain ⟨_, _, rfl⟩ := ptr hy))
    (try (obtain ⟨_, _, _, rfl⟩ := slc hx)); (try (obtain ⟨_, _, _, rfl⟩ := slc hy))
    (try (simp only [conc, Option.some.injEq] at hx; subst hx)); (try (simp only [conc, Option.some.injEq] at hy; subst hy))
    (first | (simp [Op.equalIn, run_underlying hu]; done) | skip)

def pbin (P : Program) (op : BinOp) (t : TypeId) (x y : AV) : Option AV :=
  match op, x, y with
  | .shl, .int k a, .int _ b | .shr, .int k a, .int _ b => pshift op k a b
  | _, .int k a, .int k' b => if k = k' then pint op k a b else none
  | _, .str a, .str b => pstr op a b
  | .eql, x, y => match aeq P t x y with | some b => some (.bool b) | none => none
  | .neq, x, y => match aeq P t x y with | some b => some (.bool !b) | none => none
  | _, _, _ => none

end Go.Eng
/- The engine, part 4: the operations that look at no memory: what each yields, and that the model yields it too. -/
namespace Go.Eng

theorem conc_int {ρ : Rho} {k : IntKind} {n : Int} {c : Value} (h : conc ρ (.int k n) = some c) : c = .int k n := by simpa [conc] using h.symm
theorem conc_bool {ρ : Rho} {b : Bool} {c : Value} (h : conc ρ (.bool b) = some c) : c = .bool b := by simpa [conc] using h.symm
theorem conc_str {ρ : Rho} {s : List UInt8} {c : Value} (h : conc ρ (.str s) = some c) : c = .string ⟨s.toArray⟩ := by simpa [conc] using h.symm
theorem conc_ptr {ρ : Rho} {b o : Nat} {c : Value} (h : conc ρ (.ptr b o) = some c) : ∃ pl, ρ b = some pl ∧ c = .pointer (some ⟨pl.blk, pl.off + o, none⟩) := by
  simp only [conc] at h
  cases hb : ρ b with
  | none => simp [hb] at h
  | some pl => simp [hb] at h; exact ⟨pl, rfl, h.2.symm⟩
theorem conc_ptr_sp {ρ : Rho} {b o : Nat} {c : Value} (h : conc ρ (.ptr b o) = some c) {pl : Place} (hb : ρ b = some pl) : pl.spot = none := by
  simp only [conc, hb] at h
  split at h
  · assumption
  · cases h
theorem conc_sl_sp {ρ : Rho} {b o z len : Nat} {cap : Cap} {c : Value} (h : conc ρ (.sl b o z len cap) = some c) {pl : Place} (hb : ρ b = some pl) : slCap pl o cap ≠ 0 → pl.spot = none := by
  simp only [conc, hb] at h
  exact slVal_sp h
theorem conc_sl {ρ : Rho} {b o z len : Nat} {cap : Cap} {c : Value} (h : conc ρ (.sl b o z len cap) = some c) :
    ∃ pl, ρ b = some pl ∧ len ≤ slCap pl o cap ∧ c = .slice (some ⟨pl.blk, pl.off + slAt pl o z cap, pl.spot⟩) len (slCap pl o cap) := by
  simp only [conc] at h
  cases hb : ρ b with
  | none => simp [hb] at h
  | some pl =>
    simp only [hb] at h
    obtain ⟨h1, h2⟩ := slVal_some h
    exact ⟨pl, rfl, h1, h2⟩
theorem conc_sl_lb {ρ : Rho} {b o z len : Nat} {cap : Cap} {c : Value} (h : conc ρ (.sl b o z len cap) = some c) {pl : Place} (hb : ρ b = some pl) : cap.lb ≤ slCap pl o cap := by
  simp only [conc, hb] at h
  exact slVal_lb h
theorem conc_sl_mk {ρ : Rho} {b o z len : Nat} {cap : Cap} {pl : Place} (hb : ρ b = some pl) (hl : len ≤ slCap pl o cap) (hsp : slCap pl o cap ≠ 0 → pl.spot = none) (hk : cap.lb ≤ slCap pl o cap := by exact Nat.zero_le _) :
    conc ρ (.sl b o z len cap) = some (.slice (some ⟨pl.blk, pl.off + slAt pl o z cap, pl.spot⟩) len (slCap pl o cap)) := by
  simp only [conc, hb, slVal]
  rw [if_pos ⟨hl, hk, hsp⟩]
theorem conc_ptr_mk {ρ : Rho} {b o : Nat} {pl : Place} (hb : ρ b = some pl) (hsp : pl.spot = none) : conc ρ (.ptr b o) = some (.pointer (some ⟨pl.blk, pl.off + o, none⟩)) := by
  simp only [conc, hb, if_pos hsp]
theorem conc_agg {ρ : Rho} {cs : List AV} {c : Value} (h : conc ρ (.agg cs) = some c) : ∃ x, concs ρ cs = some x ∧ c = .agg x.toArray := by
  simp only [conc] at h
  cases hc : concs ρ cs with
  | none => simp [hc] at h
  | some x => simp [hc] at h; exact ⟨x, rfl, h.symm⟩
theorem conc_agg_mk {ρ : Rho} {cs : List AV} {x : List Value} (h : concs ρ cs = some x) : conc ρ (.agg cs) = some (.agg x.toArray) := by simp only [conc, h]
theorem conc_tuple {ρ : Rho} {cs : List AV} {c : Value} (h : conc ρ (.tuple cs) = some c) : ∃ x, concs ρ cs = some x ∧ c = .tuple x.toArray := by
  simp only [conc] at h
  cases hc : concs ρ cs with
  | none => simp [hc] at h
  | some x => simp [hc] at h; exact ⟨x, rfl, h.symm⟩
theorem conc_tuple_mk {ρ : Rho} {cs : List AV} {x : List Value} (h : concs ρ cs = some x) : conc ρ (.tuple cs) = some (.tuple x.toArray) := by simp only [conc, h]
theorem conc_func {ρ : Rho} {f : FuncId} {cs : List AV} {c : Value} (h : conc ρ (.func f cs) = some c) : ∃ x, concs ρ cs = some x ∧ c = .func (.func f) #[] x.toArray := by
  simp only [conc] at h
  cases hc : concs ρ cs with
  | none => simp [hc] at h
  | some x => simp [hc] at h; exact ⟨x, rfl, h.symm⟩
theorem conc_iface {ρ : Rho} {t : TypeId} {v : AV} {c : Value} (h : conc ρ (.iface t v) = some c) : ∃ x, conc ρ v = some x ∧ c = .iface t x := by
  simp only [conc] at h
  cases hc : conc ρ v with
  | none => simp [hc] at h
  | some x => simp [hc] at h; exact ⟨x, rfl, h.symm⟩

/-! ### the binary operators -/
theorem pint_sound {P : Program} {op : BinOp} {k : IntKind} {a b : Int} {v : AV} {t : TypeId} (h : pint op k a b = some v) : ∃ c, (∀ ρ, conc ρ v = some c) ∧ ∀ w, (binOp op t (.int k a) (.int k b)).run P w = .ok c w := by
  unfold pint at h
  cases op <;> simp only at h
  case quo =>
    split at h
    · cases h
    · rename_i hb; cases h; exact ⟨_, fun _ => rfl, fun w => by simp [binOp, Op.intDiv, hb]⟩
  case rem =>
    split at h
    · cases h
    · rename_i hb; cases h; exact ⟨_, fun _ => rfl, fun w => by simp [binOp, Op.intDiv, hb]⟩
  case shl => cases h
  case shr => cases h
  all_goals (cases h; exact ⟨_, fun _ => rfl, fun w => by simp [binOp, Op.intArith, Op.intBits, Op.intCmp]⟩)
theorem pshift_sound {P : Program} {op : BinOp} {k k' : IntKind} {a b : Int} {v : AV} {t : TypeId} (h : pshift op k a b = some v) : ∃ c, (∀ ρ, conc ρ v = some c) ∧ ∀ w, (binOp op t (.int k a) (.int k' b)).run P w = .ok c w := by
  unfold pshift at h
  split at h
  · cases h
  · rename_i hb
    cases op <;> simp only at h <;> try (cases h; done)
    all_goals (cases h; exact ⟨_, fun _ => rfl, fun w => by simp [binOp, Op.shift, hb]⟩)
theorem pstr_sound {P : Program} {op : BinOp} {x y : List UInt8} {v : AV} {t : TypeId} (h : pstr op x y = some v) : ∃ c, (∀ ρ, conc ρ v = some c) ∧ ∀ w, (binOp op t (.string ⟨x.toArray⟩) (.string ⟨y.toArray⟩)).run P w = .ok c w := by
  unfold pstr at h
  cases op <;> simp only at h <;> try (cases h; done)
  case add =>
    split at h
    · cases h
    · rename_i hb
      cases h
      refine ⟨_, fun _ => rfl, fun w => ?_⟩
      have hs : ∀ l : List UInt8, (ByteArray.mk l.toArray).size = l.length := fun l => by simp [ByteArray.size]
      have e : (ByteArray.mk x.toArray ++ ByteArray.mk y.toArray) = ByteArray.mk (x ++ y).toArray := by
        apply ByteArray.ext; simp
      have hb' : ¬ (((⟨x.toArray⟩ : ByteArray).size + (⟨y.toArray⟩ : ByteArray).size : Nat) : Int) > IntKind.i64.max := by rw [hs, hs]; exact hb
      simp only [binOp, Op.stringOp, if_neg hb', e, Sem.run_pure]
  all_goals (cases h; exact ⟨_, fun _ => rfl, fun w => by simp [binOp, Op.stringOp, ByteArray.toList_mk]⟩)

/-- No number, no string. -/
def Value.other : Value → Bool
  | .int _ _ | .float _ _ | .complex _ _ _ | .string _ => false
  | _ => true
def AV.other : AV → Bool
  | .int _ _ | .str _ => false
  | _ => true
theorem conc_other {ρ : Rho} {v : AV} {c : Value} (h : conc ρ v = some c) (hv : v.other = true) : Value.other c = true := by
  cases v with
  | sl b o z len cap => obtain ⟨pl, _, _, rfl⟩ := conc_sl h; rfl
  | int k n => simp [AV.other] at hv
  | str s => simp [AV.other] at hv
  | _ =>
    simp only [conc] at h
    (try split at h)
    (try split at h)
    all_goals first
      | (cases h; rfl)
      | (cases h; done)
theorem aeq_other {P : Program} {t : TypeId} {x y : AV} {b : Bool} (h : aeq P t x y = some b) : x.other = true ∧ y.other = true := by
  unfold aeq at h
  split at h <;> first | exact ⟨rfl, rfl⟩ | (cases h; done)
theorem binOp_eql {t : TypeId} {x y : Value} (hx : Value.other x = true) : binOp .eql t x y = (do pure (.bool (← Op.equal t x y)) : Sem Value) := by
  cases x <;> first | rfl | (simp [Value.other] at hx; done) | (cases y <;> rfl)
theorem binOp_neq {t : TypeId} {x y : Value} (hx : Value.other x = true) : binOp .neq t x y = (do pure (.bool (!(← Op.equal t x y))) : Sem Value) := by
  cases x <;> first | rfl | (simp [Value.other] at hx; done) | (cases y <;> rfl)

theorem pbin_sound {P : Program} {ρ : Rho} {op : BinOp} {t : TypeId} {x y v : AV} {cx cy : Value} (h : pbin P op t x y = some v) (hx : conc ρ x = some cx) (hy : conc ρ y = some cy) :
    ∃ c, conc ρ v = some c ∧ ∀ w, (binOp op t cx cy).run P w = .ok c w := by
  have eqq : ∀ {b : Bool}, aeq P t x y = some b → ∀ w, (Op.equal t cx cy).run P w = .ok b w := fun {b} hb w => equalIn_of_aeq hb hx hy 9999 w
  unfold pbin at h
  split at h
  · rw [conc_int hx, conc_int hy]; obtain ⟨c, h1, h2⟩ := pshift_sound (P := P) (t := t) (k' := _) h; exact ⟨c, h1 ρ, h2⟩
  · rw [conc_int hx, conc_int hy]; obtain ⟨c, h1, h2⟩ := pshift_sound (P := P) (t := t) (k' := _) h; exact ⟨c, h1 ρ, h2⟩
  · split at h
    · rename_i hk; subst hk
      rw [conc_int hx, conc_int hy]; obtain ⟨c, h1, h2⟩ := pint_sound (P := P) (t := t) h; exact ⟨c, h1 ρ, h2⟩
    · cases h
  · rw [conc_str hx, conc_str hy]; obtain ⟨c, h1, h2⟩ := pstr_sound (P := P) (t := t) h; exact ⟨c, h1 ρ, h2⟩
  · cases hb : aeq P t x y with
    | none => simp [hb] at h
    | some b =>
      simp [hb] at h
      subst h
      exact ⟨.bool b, rfl, fun w => by rw [binOp_eql (conc_other hx (aeq_other hb).1)]; simp [eqq hb w]⟩
  · cases hb : aeq P t x y with
    | none => simp [hb] at h
    | some b =>
      simp [hb] at h
      subst h
      exact ⟨.bool !b, rfl, fun w => by rw [binOp_neq (conc_other hx (aeq_other hb).1)]; simp [eqq hb w]⟩
  · cases h

/-! ### evaluation of operands -/
/-- The abstract operands' values stand for the concrete ones. -/
def EvRel (ρ : Rho) (ev : Operand → Option AV) (ec : Operand → Value) : Prop := ∀ x v, ev x = some v → conc ρ v = some (ec x)

def evs (ev : Operand → Option AV) : List Operand → Option (List AV)
  | [] => some []
  | x :: r => match ev x, evs ev r with | some a, some b => some (a :: b) | _, _ => none
theorem evs_sound {ρ : Rho} {ev : Operand → Option AV} {ec : Operand → Value} (he : EvRel ρ ev ec) : ∀ (l : List Operand) (a : List AV), evs ev l = some a → concs ρ a = some (l.map ec)
  | [], a, h => by simp [evs] at h; subst h; rfl
  | x :: r, a, h => by
    simp only [evs] at h
    cases hx : ev x with
    | none => simp [hx] at h
    | some v =>
      cases hr : evs ev r with
      | none => simp [hx, hr] at h
      | some b =>
        simp [hx, hr] at h
        subst h
        exact concs_cons_mk (he x v hx) (evs_sound he r b hr)
def evps (ev : Operand → Option AV) : List (Nat × Operand) → Option (List (Nat × AV))
  | [] => some []
  | (i, x) :: r => match ev x, evps ev r with | some a, some b => some ((i, a) :: b) | _, _ => none

/-! ### building values -/
def splice (cs : List AV) (o : Nat) (vs : List AV) : List AV := cs.take o ++ vs ++ cs.drop (o + vs.length)
def afill (place : Nat → Option (Nat × Nat)) (cells : List AV) : List (Nat × AV) → Option (List AV)
  | [] => some cells
  | (i, v) :: rest =>
    match place i with
    | none => none
    | some (off, size) => if v.cells.length = size ∧ off + v.cells.length ≤ cells.length then afill place (splice cells off v.cells) rest else none

theorem foldl_splice (off : Nat) : ∀ (vs : List Value) (k : Nat) (cs : Array Value), off + k + vs.length ≤ cs.size →
    (vs.zipIdx k).foldl (fun cs p => cs.setIfInBounds (off + p.2) p.1) cs = (cs.toList.take (off + k) ++ vs ++ cs.toList.drop (off + k + vs.length)).toArray
  | [], k, cs, _ => by simp
  | v :: r, k, cs, h => by
    simp only [List.length_cons] at h
    rw [List.zipIdx_cons, List.foldl_cons, foldl_splice off r (k + 1) _ (by simp; omega)]
    have e := list_seg_step cs.toList (off + k) v r (by simp; omega)
    congr 1
    simp only [Array.toList_setIfInBounds]
    rw [show off + (k + 1) = off + k + 1 by omega, e]
    simp only [List.length_cons]

theorem concs_splice {ρ : Rho} {cs vs : List AV} {xs ys : List Value} (h : concs ρ cs = some xs) (k : concs ρ vs = some ys) (o : Nat) :
    concs ρ (splice cs o vs) = some (xs.take o ++ ys ++ xs.drop (o + ys.length)) := by
  unfold splice
  rw [concs_length vs ys k]
  exact concs_append _ _ _ _ (concs_append _ _ _ _ (concs_take o _ _ h) k) (concs_drop _ _ _ h)

theorem afill_sound {ρ : Rho} (place : Nat → Option (Nat × Nat)) : ∀ (ps : List (Nat × AV)) (qs : List (Nat × Value)) (cells out : List AV) (xs : List Value),
    afill place cells ps = some out → concs ρ cells = some xs → (ps.length = qs.length ∧ ∀ (i : Nat) p, ps[i]? = some p → ∃ q, qs[i]? = some q ∧ q.1 = p.1 ∧ conc ρ p.2 = some q.2) →
    ∃ ys, concs ρ out = some ys ∧ Instr.fill place xs.toArray qs = some ys.toArray
  | [], [], cells, out, xs, h, hx, _ => by simp [afill] at h; subst h; exact ⟨xs, hx, rfl⟩
  | [], _ :: _, _, _, _, _, _, hq => by simp at hq
  | _ :: _, [], _, _, _, _, _, hq => by simp at hq
  | (i, v) :: ps, (i', u) :: qs, cells, out, xs, h, hx, hq => by
    obtain ⟨q, hq0, hqi, hqv⟩ := hq.2 0 (i, v) rfl
    simp at hq0; subst hq0
    simp only at hqi hqv
    subst hqi
    simp only [afill] at h
    cases hp : place i' with
    | none => simp [hp] at h
    | some os =>
      obtain ⟨off, size⟩ := os
      simp only [hp] at h
      split at h
      · rename_i hc
        have hcells := conc_cells hqv
        have hl1 := concs_length _ _ hcells
        have hl2 := concs_length _ _ hx
        have hcl : u.cells.size = v.cells.length := by simpa using hl1
        obtain ⟨ys, h1, h2⟩ := afill_sound place ps qs _ out _ h (concs_splice hx hcells off) ⟨by simpa using hq.1, fun j p hj => by simpa using hq.2 (j + 1) p (by simpa using hj)⟩
        refine ⟨ys, h1, ?_⟩
        simp only [Instr.fill, hp]
        rw [if_neg]
        · rw [← h2]
          congr 1
          have := foldl_splice off u.cells.toList 0 xs.toArray (by simp; omega)
          simp only [Nat.add_zero] at this
          rw [← this, ← Array.foldl_toList, Array.toList_zipIdx]
        · simp; omega
      · cases h

end Go.Eng
