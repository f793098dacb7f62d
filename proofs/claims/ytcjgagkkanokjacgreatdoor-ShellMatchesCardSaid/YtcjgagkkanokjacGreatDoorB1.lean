/- Law 41: facts of the types (printed by gen41.py). -/
import Derived.Test.YtcjgagkkanokjacGreatDoorE27
import Derived.Test.YtcjgagkkanokjacGreatDoorE29
import Derived.Test.YtcjgagkkanokjacGreatDoorProg
import Derived.KernelRfl
namespace Go.Eng.L41
open Go.Proofs Go.Eng
/-- A struct that is built of parts. -/
def bld (pl : List (Nat × Nat)) (z : List AV) (ps : List (Nat × AV)) : Option AV := match afill (pl[·]?) z ps with
  | some cs => some (.agg cs)
  | none => none
theorem sz3 : tsz Tryz.prog 3 = some 1 := by kernel_rfl
theorem by3 : tbytes Tryz.prog 3 = some 8 := by kernel_rfl
theorem ag3 : isAggT Tryz.prog 3 = some false := by kernel_rfl
@[simp] theorem ac3 (ty : TypeId) (cs : List AV) (wr : Option Nat) (o : Nat) : atCells Tryz.prog 3 (.cells ty cs wr) o = cs[o]? := atCells_one ag3 _ _ _ _
theorem z3 : tzero Tryz.prog 3 = some (.int .i64 0) := by kernel_rfl
theorem it3 : Tryz.prog.underlying 3 = some (.int .i64) := by kernel_rfl
theorem sz4 : tsz Tryz.prog 4 = some 1 := by kernel_rfl
theorem by4 : tbytes Tryz.prog 4 = some 1 := by kernel_rfl
theorem ag4 : isAggT Tryz.prog 4 = some false := by kernel_rfl
@[simp] theorem ac4 (ty : TypeId) (cs : List AV) (wr : Option Nat) (o : Nat) : atCells Tryz.prog 4 (.cells ty cs wr) o = cs[o]? := atCells_one ag4 _ _ _ _
theorem z4 : tzero Tryz.prog 4 = some (.bool false) := by kernel_rfl
theorem bt4 : Tryz.prog.underlying 4 = some .bool := by kernel_rfl
theorem sz5 : tsz Tryz.prog 5 = some 1 := by kernel_rfl
theorem by5 : tbytes Tryz.prog 5 = some 1 := by kernel_rfl
theorem ag5 : isAggT Tryz.prog 5 = some false := by kernel_rfl
@[simp] theorem ac5 (ty : TypeId) (cs : List AV) (wr : Option Nat) (o : Nat) : atCells Tryz.prog 5 (.cells ty cs wr) o = cs[o]? := atCells_one ag5 _ _ _ _
theorem z5 : tzero Tryz.prog 5 = some (.int .u8 0) := by kernel_rfl
theorem it5 : Tryz.prog.underlying 5 = some (.int .u8) := by kernel_rfl
theorem sz9 : tsz Tryz.prog 9 = some 1 := by kernel_rfl
theorem by9 : tbytes Tryz.prog 9 = some 16 := by kernel_rfl
theorem ag9 : isAggT Tryz.prog 9 = some false := by kernel_rfl
@[simp] theorem ac9 (ty : TypeId) (cs : List AV) (wr : Option Nat) (o : Nat) : atCells Tryz.prog 9 (.cells ty cs wr) o = cs[o]? := atCells_one ag9 _ _ _ _
theorem z9 : tzero Tryz.prog 9 = some (.str []) := by kernel_rfl
theorem st9 : Tryz.prog.underlying 9 = some .string := by kernel_rfl
theorem sz23 : tsz Tryz.prog 23 = some 1 := by kernel_rfl
theorem by23 : tbytes Tryz.prog 23 = some 24 := by kernel_rfl
theorem ag23 : isAggT Tryz.prog 23 = some false := by kernel_rfl
@[simp] theorem ac23 (ty : TypeId) (cs : List AV) (wr : Option Nat) (o : Nat) : atCells Tryz.prog 23 (.cells ty cs wr) o = cs[o]? := atCells_one ag23 _ _ _ _
theorem z23 : tzero Tryz.prog 23 = some (.nilsl) := by kernel_rfl
theorem sl23 : Tryz.prog.underlying 23 = some (.slice 25) := by kernel_rfl
theorem sz25 : tsz Tryz.prog 25 = some 2 := by kernel_rfl
theorem by25 : tbytes Tryz.prog 25 = some 24 := by kernel_rfl
theorem ag25 : isAggT Tryz.prog 25 = some true := by kernel_rfl
@[simp] theorem ac25 (ty : TypeId) (cs : List AV) (wr : Option Nat) (o : Nat) : atCells Tryz.prog 25 (.cells ty cs wr) o = if o + 2 ≤ cs.length then some (.agg ((cs.drop o).take 2)) else none := atCells_agg ag25 sz25 _ _ _ _
theorem z25 : tzero Tryz.prog 25 = some ((.agg [.int .i64 0, .str []])) := by kernel_rfl
@[simp] theorem pal25 : pal Tryz.prog 25 = some (25, [.int .i64 0, .str []], .ptr) := by kernel_rfl
@[simp] theorem fa25_0 (b o : Nat) : pfieldAddr Tryz.prog 25 (.ptr b o) 0 = some (.ptr b o) := by kernel_rfl
@[simp] theorem fa25_1 (b o : Nat) : pfieldAddr Tryz.prog 25 (.ptr b o) 1 = some (.ptr b (o + 1)) := by kernel_rfl
theorem pb25 (ps : List (Nat × AV)) : pbuild Tryz.prog 25 ps = bld [(0, 1), (1, 1)] [.int .i64 0, .str []] ps := by kernel_rfl
theorem sz30 : tsz Tryz.prog 30 = some 1 := by kernel_rfl
theorem by30 : tbytes Tryz.prog 30 = some 24 := by kernel_rfl
theorem ag30 : isAggT Tryz.prog 30 = some false := by kernel_rfl
@[simp] theorem ac30 (ty : TypeId) (cs : List AV) (wr : Option Nat) (o : Nat) : atCells Tryz.prog 30 (.cells ty cs wr) o = cs[o]? := atCells_one ag30 _ _ _ _
theorem z30 : tzero Tryz.prog 30 = some (.nilsl) := by kernel_rfl
theorem sl30 : Tryz.prog.underlying 30 = some (.slice 31) := by kernel_rfl
theorem sz31 : tsz Tryz.prog 31 = some 2 := by kernel_rfl
theorem by31 : tbytes Tryz.prog 31 = some 24 := by kernel_rfl
theorem ag31 : isAggT Tryz.prog 31 = some true := by kernel_rfl
@[simp] theorem ac31 (ty : TypeId) (cs : List AV) (wr : Option Nat) (o : Nat) : atCells Tryz.prog 31 (.cells ty cs wr) o = if o + 2 ≤ cs.length then some (.agg ((cs.drop o).take 2)) else none := atCells_agg ag31 sz31 _ _ _ _
theorem z31 : tzero Tryz.prog 31 = some ((.agg [.int .i64 0, .str []])) := by kernel_rfl
@[simp] theorem pal31 : pal Tryz.prog 31 = some (31, [.int .i64 0, .str []], .ptr) := by kernel_rfl
@[simp] theorem fa31_0 (b o : Nat) : pfieldAddr Tryz.prog 31 (.ptr b o) 0 = some (.ptr b o) := by kernel_rfl
@[simp] theorem fa31_1 (b o : Nat) : pfieldAddr Tryz.prog 31 (.ptr b o) 1 = some (.ptr b (o + 1)) := by kernel_rfl
theorem pb31 (ps : List (Nat × AV)) : pbuild Tryz.prog 31 ps = bld [(0, 1), (1, 1)] [.int .i64 0, .str []] ps := by kernel_rfl
theorem sz45 : tsz Tryz.prog 45 = some 1 := by kernel_rfl
theorem by45 : tbytes Tryz.prog 45 = some 24 := by kernel_rfl
theorem ag45 : isAggT Tryz.prog 45 = some false := by kernel_rfl
@[simp] theorem ac45 (ty : TypeId) (cs : List AV) (wr : Option Nat) (o : Nat) : atCells Tryz.prog 45 (.cells ty cs wr) o = cs[o]? := atCells_one ag45 _ _ _ _
theorem z45 : tzero Tryz.prog 45 = some (.nilsl) := by kernel_rfl
theorem sl45 : Tryz.prog.underlying 45 = some (.slice 4) := by kernel_rfl
theorem sz48 : tsz Tryz.prog 48 = some 1 := by kernel_rfl
theorem by48 : tbytes Tryz.prog 48 = some 24 := by kernel_rfl
theorem ag48 : isAggT Tryz.prog 48 = some false := by kernel_rfl
@[simp] theorem ac48 (ty : TypeId) (cs : List AV) (wr : Option Nat) (o : Nat) : atCells Tryz.prog 48 (.cells ty cs wr) o = cs[o]? := atCells_one ag48 _ _ _ _
theorem z48 : tzero Tryz.prog 48 = some (.nilsl) := by kernel_rfl
theorem sl48 : Tryz.prog.underlying 48 = some (.slice 50) := by kernel_rfl
theorem sz50 : tsz Tryz.prog 50 = some 2 := by kernel_rfl
theorem by50 : tbytes Tryz.prog 50 = some 2 := by kernel_rfl
theorem ag50 : isAggT Tryz.prog 50 = some true := by kernel_rfl
@[simp] theorem ac50 (ty : TypeId) (cs : List AV) (wr : Option Nat) (o : Nat) : atCells Tryz.prog 50 (.cells ty cs wr) o = if o + 2 ≤ cs.length then some (.agg ((cs.drop o).take 2)) else none := atCells_agg ag50 sz50 _ _ _ _
theorem z50 : tzero Tryz.prog 50 = some ((.agg [.bool false, .int .u8 0])) := by kernel_rfl
@[simp] theorem pal50 : pal Tryz.prog 50 = some (50, [.bool false, .int .u8 0], .ptr) := by kernel_rfl
@[simp] theorem fa50_0 (b o : Nat) : pfieldAddr Tryz.prog 50 (.ptr b o) 0 = some (.ptr b o) := by kernel_rfl
@[simp] theorem fa50_1 (b o : Nat) : pfieldAddr Tryz.prog 50 (.ptr b o) 1 = some (.ptr b (o + 1)) := by kernel_rfl
theorem pb50 (ps : List (Nat × AV)) : pbuild Tryz.prog 50 ps = bld [(0, 1), (1, 1)] [.bool false, .int .u8 0] ps := by kernel_rfl
@[simp] theorem eqb4 (x y : Operand) (a b : Bool) : bin2 Tryz.prog .eql 4 x y (some (.bool a)) (some (.bool b)) = some (.bool (a == b)) := bin2_eql_bool bt4 x y a b
@[simp] theorem neb4 (x y : Operand) (a b : Bool) : bin2 Tryz.prog .neq 4 x y (some (.bool a)) (some (.bool b)) = some (.bool (!(a == b))) := bin2_neq_bool bt4 x y a b
@[simp] theorem hb3 : hasBody Tryz.prog 3 = true := by kernel_rfl
@[simp] theorem hb4 : hasBody Tryz.prog 4 = true := by kernel_rfl
@[simp] theorem hb5 : hasBody Tryz.prog 5 = true := by kernel_rfl
@[simp] theorem hb6 : hasBody Tryz.prog 6 = true := by kernel_rfl
@[simp] theorem hb7 : hasBody Tryz.prog 7 = true := by kernel_rfl
@[simp] theorem hb8 : hasBody Tryz.prog 8 = true := by kernel_rfl
@[simp] theorem hb9 : hasBody Tryz.prog 9 = true := by kernel_rfl
@[simp] theorem hb10 : hasBody Tryz.prog 10 = true := by kernel_rfl
@[simp] theorem hb18 : hasBody Tryz.prog 18 = true := by kernel_rfl
@[simp] theorem hb19 : hasBody Tryz.prog 19 = true := by kernel_rfl
@[simp] theorem hb20 : hasBody Tryz.prog 20 = true := by kernel_rfl
@[simp] theorem hb25 : hasBody Tryz.prog 25 = true := by kernel_rfl

/-! ### strings -/
@[simp] theorem aeval_str (fr : AFrame) (g : Nat) (s : ByteArray) : aeval fr g (.const (.string s)) = some (.str s.data.toList) := rfl
@[simp] theorem plen_str (s : List UInt8) : plen Tryz.prog 9 (.str s) = some (.int .i64 (s.length : Int)) := by simp [plen, st9]
@[simp] theorem plen_23 (b o z n : Nat) (c : Cap) : plen Tryz.prog 23 (.sl b o z n c) = some (.int .i64 (n : Int)) := by simp [plen, sl23]
@[simp] theorem plen_30 (b o z n : Nat) (c : Cap) : plen Tryz.prog 30 (.sl b o z n c) = some (.int .i64 (n : Int)) := by simp [plen, sl30]
@[simp] theorem plen_45 (b o z n : Nat) (c : Cap) : plen Tryz.prog 45 (.sl b o z n c) = some (.int .i64 (n : Int)) := by simp [plen, sl45]
@[simp] theorem plen_48 (b o z n : Nat) (c : Cap) : plen Tryz.prog 48 (.sl b o z n c) = some (.int .i64 (n : Int)) := by simp [plen, sl48]
@[simp] theorem eqs9 (x y : Operand) (a b : List UInt8) : bin2 Tryz.prog .eql 9 x y (some (.str a)) (some (.str b)) = some (.bool (a == b)) := by
  simp [bin2, okEq, pbin, pstr]
@[simp] theorem nes9 (x y : Operand) (a b : List UInt8) : bin2 Tryz.prog .neq 9 x y (some (.str a)) (some (.str b)) = some (.bool (!(a == b))) := by
  simp [bin2, okEq, pbin, pstr]
@[simp] theorem cells_str (s : List UInt8) : AV.cells (.str s) = [.str s] := rfl
@[simp] theorem ix9 (s : List UInt8) (i : Nat) : pindex Tryz.prog 9 (.str s) (.int .i64 (i : Int)) = (s[i]?).map byteAV := by
  simp only [pindex, nat?, Int.natCast_nonneg, if_true, Int.toNat_natCast, st9]
  cases s[i]? <;> rfl

section
variable [Orc] (fr : AFrame) (h : AHeap) (xs : Array Operand) (K : AV → AHeap → Prop)
@[simp] theorem EW_len9 : EW Tryz.prog fr h (.call ⟨.builtin .len, xs, #[9]⟩) K = Wv (ppure Tryz.prog (aeval fr h.glob) (.call ⟨.builtin .len, xs, #[9]⟩)) h K := EW_len _ _ _ _ _ rfl
@[simp] theorem EW_len23 : EW Tryz.prog fr h (.call ⟨.builtin .len, xs, #[23]⟩) K = Wv (ppure Tryz.prog (aeval fr h.glob) (.call ⟨.builtin .len, xs, #[23]⟩)) h K := EW_len _ _ _ _ _ rfl
@[simp] theorem EW_len30 : EW Tryz.prog fr h (.call ⟨.builtin .len, xs, #[30]⟩) K = Wv (ppure Tryz.prog (aeval fr h.glob) (.call ⟨.builtin .len, xs, #[30]⟩)) h K := EW_len _ _ _ _ _ rfl
@[simp] theorem EW_len45 : EW Tryz.prog fr h (.call ⟨.builtin .len, xs, #[45]⟩) K = Wv (ppure Tryz.prog (aeval fr h.glob) (.call ⟨.builtin .len, xs, #[45]⟩)) h K := EW_len _ _ _ _ _ rfl
@[simp] theorem EW_len48 : EW Tryz.prog fr h (.call ⟨.builtin .len, xs, #[48]⟩) K = Wv (ppure Tryz.prog (aeval fr h.glob) (.call ⟨.builtin .len, xs, #[48]⟩)) h K := EW_len _ _ _ _ _ rfl
@[simp] theorem EW_app30 : EW Tryz.prog fr h (.call ⟨.builtin .append, xs, #[30, 30]⟩) K = optP (aappend2 Tryz.prog h [30, 30] (evs (aeval fr h.glob) xs.toList)) K := EW_append _ _ _ _ _ rfl
@[simp] theorem EW_app48 : EW Tryz.prog fr h (.call ⟨.builtin .append, xs, #[48, 48]⟩) K = optP (aappend2 Tryz.prog h [48, 48] (evs (aeval fr h.glob) xs.toList)) K := EW_append _ _ _ _ _ rfl
end
attribute [-simp] EW_len EW_append
end Go.Eng.L41
/- Law 41: strings; the small functions. -/
namespace Go.Eng.L41
open Go.Proofs Go.Eng
/-- What is known of calls: awake. -/
class O41 extends Orc where
  only : ∀ f args h, f ≠ 6 → toOrc.call f args h = none
variable [O41]
theorem ci {f : FuncId} {args : List AV} {h : AHeap} {K : AV → AHeap → Prop} {fn : Func} {c : Code} (hf : Tryz.prog.funcs[f]? = some fn) (hb : fn.body = some c) (hne : f ≠ 6)
    (hw : ∀ fr : AFrame, fr.n = args.length + (fn.ntmps - args.length) → (∀ i, i < args.length → fr.get i = args[i]?) → AW Tryz.prog c fr h (kfun Tryz.prog fn.results.toList K)) : Ca Tryz.prog f args h K :=
  Ca_intro hf hb hw (O41.only f args h hne)
omit [O41] in
theorem wrap_in {n : Int} (h : -9223372036854775808 ≤ n ∧ n < 9223372036854775808) : IntKind.i64.wrap n = n := IntWalk.i64_in _ (by omega)
omit [O41] in
theorem wrap_nat (i : Nat) (hi : i < 9223372036854775807) : IntKind.i64.wrap ((i : Int) + 1) = ((i + 1 : Nat) : Int) := by rw [IntWalk.i64_in _ (by omega)]; omega
omit [O41] in
theorem sls_lo (s : List UInt8) (i : Nat) (hi : i ≤ s.length) : pslice Tryz.prog 9 (.str s) (some (.int .i64 (i : Int))) none none = some (.str (s.drop i)) := by
  simp only [pslice, st9, bnd, nat?, Int.natCast_nonneg, if_true, Int.toNat_natCast]
  rw [if_pos ⟨hi, Nat.le_refl _⟩, List.take_of_length_le (by rw [List.length_drop]; omega)]
omit [O41] in
theorem sls_hi (s : List UInt8) (i : Nat) (hi : i ≤ s.length) : pslice Tryz.prog 9 (.str s) none (some (.int .i64 (i : Int))) none = some (.str (s.take i)) := by
  simp only [pslice, st9, bnd, nat?, Int.natCast_nonneg, if_true, Int.toNat_natCast]
  rw [if_pos ⟨Nat.zero_le _, hi⟩, List.drop_zero, Nat.sub_zero]
/-- Whether a string begins with another. -/
def hasP (s p : List UInt8) : Bool := decide (p.length ≤ s.length) && (s.take p.length == p)
theorem hasp25 (h : AHeap) (s p : List UInt8) : Ca Tryz.prog 25 [.str s, .str p] h fun r h' => r = .bool (hasP s p) ∧ h' = h := by
  refine ci Tryz.func25 rfl (by decide) ?_
  intro fr hn hg
  replace hn : fr.n = 18 := hn
  have h0 : fr.get 0 = some (.str s) := hg 0 (by simp)
  have h1 : fr.get 1 = some (.str p) := hg 1 (by simp)
  clear hg
  show AW _ _ _ _ _
  simp [hn, h0, h1, kseq_normal]
  refine Br.mk (fun hb => ?_) (fun hb => ?_)
  · have hle : ¬ p.length ≤ s.length := by rw [ilt_true] at hb; omega
    simp [hn, h0, h1, hb, kseq_normal, hasP, hle]
  · have hle : p.length ≤ s.length := by rw [ilt_false] at hb; omega
    simp [hn, h0, h1, hb, kseq_normal, sls_hi _ _ hle, hasP, hle]
theorem hasp19 (h : AHeap) (s p : List UInt8) : Ca Tryz.prog 19 [.str s, .str p] h fun r h' => r = .bool (hasP s p) ∧ h' = h := by
  refine ci Tryz.func19 rfl (by decide) ?_
  intro fr hn hg
  replace hn : fr.n = 8 := hn
  have h0 : fr.get 0 = some (.str s) := hg 0 (by simp)
  have h1 : fr.get 1 = some (.str p) := hg 1 (by simp)
  clear hg
  show AW _ _ _ _ _
  simp [hn, h0, h1, kseq_normal]
  refine Ca.mono (hasp25 h s p) ?_
  rintro r h' ⟨rfl, rfl⟩
  simp [hn, kseq_normal]
end Go.Eng.L41
/- Law 41: parts; whether a word is odd. -/
namespace Go.Eng.L41
open Go.Proofs Go.Eng
/-- A part of a word. -/
abbrev Prt := Int × List UInt8
def pc (p : Prt) : List AV := [.int .i64 p.1, .str p.2]
@[simp] theorem pc_len (p : Prt) : (pc p).length = 2 := rfl
def oddP (p : Prt) : Bool := (ilt p.1 0 || ilt 4 p.1) || ((ieq p.1 4 && !(p.2 == [42])) && !(p.2 == [63]))
variable [O41]
theorem odd_sp (h : AHeap) (p : Prt) : Ca Tryz.prog 5 [.agg (pc p)] h fun r h' => r = .bool (oddP p) ∧ Pres h h' := by
  refine ci Tryz.func5 rfl (by decide) ?_
  intro fr hn hg
  replace hn : fr.n = 26 := hn
  have h0 : fr.get 0 = some (.agg (pc p)) := hg 0 (by simp)
  clear hg
  obtain ⟨k, s⟩ := p
  show AW _ _ _ _ _
  simp [hn, h0, kseq_normal, pc]
  repeat' (first | refine Br.mk (fun hb => ?_) (fun hb => ?_) | simp [*, kseq_normal, oddP, (Pres.refl h).new])
end Go.Eng.L41
