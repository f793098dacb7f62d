/- Law 35: facts of the types (printed by gen35.py). -/
import Derived.Test.YtcjgagkkanokjabE27
import Derived.Test.YtcjgagkkanokjabProg
import Derived.KernelRfl
namespace Go.Eng.L35
open Go.Proofs Go.Eng
/-- A struct that is built of parts. -/
def bld (pl : List (Nat × Nat)) (z : List AV) (ps : List (Nat × AV)) : Option AV := match afill (pl[·]?) z ps with
  | some cs => some (.agg cs)
  | none => none
theorem sz2 : tsz Try.prog 2 = some 1 := by kernel_rfl
theorem by2 : tbytes Try.prog 2 = some 8 := by kernel_rfl
theorem ag2 : isAggT Try.prog 2 = some false := by kernel_rfl
@[simp] theorem ac2 (ty : TypeId) (cs : List AV) (wr : Option Nat) (o : Nat) : atCells Try.prog 2 (.cells ty cs wr) o = cs[o]? := atCells_one ag2 _ _ _ _
theorem z2 : tzero Try.prog 2 = some (.int .i64 0) := by kernel_rfl
theorem it2 : Try.prog.underlying 2 = some (.int .i64) := by kernel_rfl
theorem sz3 : tsz Try.prog 3 = some 1 := by kernel_rfl
theorem by3 : tbytes Try.prog 3 = some 8 := by kernel_rfl
theorem ag3 : isAggT Try.prog 3 = some false := by kernel_rfl
@[simp] theorem ac3 (ty : TypeId) (cs : List AV) (wr : Option Nat) (o : Nat) : atCells Try.prog 3 (.cells ty cs wr) o = cs[o]? := atCells_one ag3 _ _ _ _
theorem z3 : tzero Try.prog 3 = some (.int .i64 0) := by kernel_rfl
theorem it3 : Try.prog.underlying 3 = some (.int .i64) := by kernel_rfl
theorem sz4 : tsz Try.prog 4 = some 1 := by kernel_rfl
theorem by4 : tbytes Try.prog 4 = some 1 := by kernel_rfl
theorem ag4 : isAggT Try.prog 4 = some false := by kernel_rfl
@[simp] theorem ac4 (ty : TypeId) (cs : List AV) (wr : Option Nat) (o : Nat) : atCells Try.prog 4 (.cells ty cs wr) o = cs[o]? := atCells_one ag4 _ _ _ _
theorem z4 : tzero Try.prog 4 = some (.bool false) := by kernel_rfl
theorem bt4 : Try.prog.underlying 4 = some .bool := by kernel_rfl
theorem sz5 : tsz Try.prog 5 = some 1 := by kernel_rfl
theorem by5 : tbytes Try.prog 5 = some 1 := by kernel_rfl
theorem ag5 : isAggT Try.prog 5 = some false := by kernel_rfl
@[simp] theorem ac5 (ty : TypeId) (cs : List AV) (wr : Option Nat) (o : Nat) : atCells Try.prog 5 (.cells ty cs wr) o = cs[o]? := atCells_one ag5 _ _ _ _
theorem z5 : tzero Try.prog 5 = some (.int .u8 0) := by kernel_rfl
theorem it5 : Try.prog.underlying 5 = some (.int .u8) := by kernel_rfl
theorem sz23 : tsz Try.prog 23 = some 4 := by kernel_rfl
theorem by23 : tbytes Try.prog 23 = some 32 := by kernel_rfl
theorem ag23 : isAggT Try.prog 23 = some true := by kernel_rfl
@[simp] theorem ac23 (ty : TypeId) (cs : List AV) (wr : Option Nat) (o : Nat) : atCells Try.prog 23 (.cells ty cs wr) o = if o + 4 ≤ cs.length then some (.agg ((cs.drop o).take 4)) else none := atCells_agg ag23 sz23 _ _ _ _
theorem z23 : tzero Try.prog 23 = some ((.agg [.int .i64 0, .int .i64 0, .int .i64 0, .int .i64 0])) := by kernel_rfl
@[simp] theorem pal23 : pal Try.prog 23 = some (23, [.int .i64 0, .int .i64 0, .int .i64 0, .int .i64 0], .ptr) := by kernel_rfl
@[simp] theorem fa23_0 (b o : Nat) : pfieldAddr Try.prog 23 (.ptr b o) 0 = some (.ptr b o) := by kernel_rfl
@[simp] theorem fa23_1 (b o : Nat) : pfieldAddr Try.prog 23 (.ptr b o) 1 = some (.ptr b (o + 1)) := by kernel_rfl
@[simp] theorem fa23_2 (b o : Nat) : pfieldAddr Try.prog 23 (.ptr b o) 2 = some (.ptr b (o + 2)) := by kernel_rfl
@[simp] theorem fa23_3 (b o : Nat) : pfieldAddr Try.prog 23 (.ptr b o) 3 = some (.ptr b (o + 3)) := by kernel_rfl
theorem pb23 (ps : List (Nat × AV)) : pbuild Try.prog 23 ps = bld [(0, 1), (1, 1), (2, 1), (3, 1)] [.int .i64 0, .int .i64 0, .int .i64 0, .int .i64 0] ps := by kernel_rfl
theorem sz24 : tsz Try.prog 24 = some 1 := by kernel_rfl
theorem by24 : tbytes Try.prog 24 = some 24 := by kernel_rfl
theorem ag24 : isAggT Try.prog 24 = some false := by kernel_rfl
@[simp] theorem ac24 (ty : TypeId) (cs : List AV) (wr : Option Nat) (o : Nat) : atCells Try.prog 24 (.cells ty cs wr) o = cs[o]? := atCells_one ag24 _ _ _ _
theorem z24 : tzero Try.prog 24 = some (.nilsl) := by kernel_rfl
theorem sl24 : Try.prog.underlying 24 = some (.slice 36) := by kernel_rfl
theorem sz27 : tsz Try.prog 27 = some 1 := by kernel_rfl
theorem by27 : tbytes Try.prog 27 = some 8 := by kernel_rfl
theorem ag27 : isAggT Try.prog 27 = some false := by kernel_rfl
@[simp] theorem ac27 (ty : TypeId) (cs : List AV) (wr : Option Nat) (o : Nat) : atCells Try.prog 27 (.cells ty cs wr) o = cs[o]? := atCells_one ag27 _ _ _ _
theorem z27 : tzero Try.prog 27 = some (.nilptr) := by kernel_rfl
theorem pt27 : Try.prog.underlying 27 = some (.pointer 56) := by kernel_rfl
theorem sz28 : tsz Try.prog 28 = some 1 := by kernel_rfl
theorem by28 : tbytes Try.prog 28 = some 8 := by kernel_rfl
theorem ag28 : isAggT Try.prog 28 = some false := by kernel_rfl
@[simp] theorem ac28 (ty : TypeId) (cs : List AV) (wr : Option Nat) (o : Nat) : atCells Try.prog 28 (.cells ty cs wr) o = cs[o]? := atCells_one ag28 _ _ _ _
theorem z28 : tzero Try.prog 28 = some (.int .i64 0) := by kernel_rfl
theorem it28 : Try.prog.underlying 28 = some (.int .i64) := by kernel_rfl
theorem sz31 : tsz Try.prog 31 = some 1 := by kernel_rfl
theorem by31 : tbytes Try.prog 31 = some 8 := by kernel_rfl
theorem ag31 : isAggT Try.prog 31 = some false := by kernel_rfl
@[simp] theorem ac31 (ty : TypeId) (cs : List AV) (wr : Option Nat) (o : Nat) : atCells Try.prog 31 (.cells ty cs wr) o = cs[o]? := atCells_one ag31 _ _ _ _
theorem z31 : tzero Try.prog 31 = some (.nilptr) := by kernel_rfl
theorem pt31 : Try.prog.underlying 31 = some (.pointer 60) := by kernel_rfl
theorem sz34 : tsz Try.prog 34 = some 1 := by kernel_rfl
theorem by34 : tbytes Try.prog 34 = some 24 := by kernel_rfl
theorem ag34 : isAggT Try.prog 34 = some false := by kernel_rfl
@[simp] theorem ac34 (ty : TypeId) (cs : List AV) (wr : Option Nat) (o : Nat) : atCells Try.prog 34 (.cells ty cs wr) o = cs[o]? := atCells_one ag34 _ _ _ _
theorem z34 : tzero Try.prog 34 = some (.nilsl) := by kernel_rfl
theorem sl34 : Try.prog.underlying 34 = some (.slice 5) := by kernel_rfl
theorem sz36 : tsz Try.prog 36 = some 5 := by kernel_rfl
theorem by36 : tbytes Try.prog 36 = some 56 := by kernel_rfl
theorem ag36 : isAggT Try.prog 36 = some true := by kernel_rfl
@[simp] theorem ac36 (ty : TypeId) (cs : List AV) (wr : Option Nat) (o : Nat) : atCells Try.prog 36 (.cells ty cs wr) o = if o + 5 ≤ cs.length then some (.agg ((cs.drop o).take 5)) else none := atCells_agg ag36 sz36 _ _ _ _
theorem z36 : tzero Try.prog 36 = some ((.agg [.int .i64 0, .int .i64 0, .bool false, .nilsl, .int .i64 0])) := by kernel_rfl
@[simp] theorem pal36 : pal Try.prog 36 = some (36, [.int .i64 0, .int .i64 0, .bool false, .nilsl, .int .i64 0], .ptr) := by kernel_rfl
@[simp] theorem fa36_0 (b o : Nat) : pfieldAddr Try.prog 36 (.ptr b o) 0 = some (.ptr b o) := by kernel_rfl
@[simp] theorem fa36_1 (b o : Nat) : pfieldAddr Try.prog 36 (.ptr b o) 1 = some (.ptr b (o + 1)) := by kernel_rfl
@[simp] theorem fa36_2 (b o : Nat) : pfieldAddr Try.prog 36 (.ptr b o) 2 = some (.ptr b (o + 2)) := by kernel_rfl
@[simp] theorem fa36_3 (b o : Nat) : pfieldAddr Try.prog 36 (.ptr b o) 3 = some (.ptr b (o + 3)) := by kernel_rfl
@[simp] theorem fa36_4 (b o : Nat) : pfieldAddr Try.prog 36 (.ptr b o) 4 = some (.ptr b (o + 4)) := by kernel_rfl
theorem pb36 (ps : List (Nat × AV)) : pbuild Try.prog 36 ps = bld [(0, 1), (1, 1), (2, 1), (3, 1), (4, 1)] [.int .i64 0, .int .i64 0, .bool false, .nilsl, .int .i64 0] ps := by kernel_rfl
theorem sz42 : tsz Try.prog 42 = some 1 := by kernel_rfl
theorem by42 : tbytes Try.prog 42 = some 24 := by kernel_rfl
theorem ag42 : isAggT Try.prog 42 = some false := by kernel_rfl
@[simp] theorem ac42 (ty : TypeId) (cs : List AV) (wr : Option Nat) (o : Nat) : atCells Try.prog 42 (.cells ty cs wr) o = cs[o]? := atCells_one ag42 _ _ _ _
theorem z42 : tzero Try.prog 42 = some (.nilsl) := by kernel_rfl
theorem sl42 : Try.prog.underlying 42 = some (.slice 48) := by kernel_rfl
theorem sz48 : tsz Try.prog 48 = some 2 := by kernel_rfl
theorem by48 : tbytes Try.prog 48 = some 32 := by kernel_rfl
theorem ag48 : isAggT Try.prog 48 = some true := by kernel_rfl
@[simp] theorem ac48 (ty : TypeId) (cs : List AV) (wr : Option Nat) (o : Nat) : atCells Try.prog 48 (.cells ty cs wr) o = if o + 2 ≤ cs.length then some (.agg ((cs.drop o).take 2)) else none := atCells_agg ag48 sz48 _ _ _ _
theorem z48 : tzero Try.prog 48 = some ((.agg [.int .i64 0, .nilsl])) := by kernel_rfl
@[simp] theorem pal48 : pal Try.prog 48 = some (48, [.int .i64 0, .nilsl], .ptr) := by kernel_rfl
@[simp] theorem fa48_0 (b o : Nat) : pfieldAddr Try.prog 48 (.ptr b o) 0 = some (.ptr b o) := by kernel_rfl
@[simp] theorem fa48_1 (b o : Nat) : pfieldAddr Try.prog 48 (.ptr b o) 1 = some (.ptr b (o + 1)) := by kernel_rfl
theorem pb48 (ps : List (Nat × AV)) : pbuild Try.prog 48 ps = bld [(0, 1), (1, 1)] [.int .i64 0, .nilsl] ps := by kernel_rfl
theorem sz49 : tsz Try.prog 49 = some 1 := by kernel_rfl
theorem by49 : tbytes Try.prog 49 = some 24 := by kernel_rfl
theorem ag49 : isAggT Try.prog 49 = some false := by kernel_rfl
@[simp] theorem ac49 (ty : TypeId) (cs : List AV) (wr : Option Nat) (o : Nat) : atCells Try.prog 49 (.cells ty cs wr) o = cs[o]? := atCells_one ag49 _ _ _ _
theorem z49 : tzero Try.prog 49 = some (.nilsl) := by kernel_rfl
theorem sl49 : Try.prog.underlying 49 = some (.slice 4) := by kernel_rfl
theorem sz52 : tsz Try.prog 52 = some 5 := by kernel_rfl
theorem by52 : tbytes Try.prog 52 = some 56 := by kernel_rfl
theorem ag52 : isAggT Try.prog 52 = some true := by kernel_rfl
@[simp] theorem ac52 (ty : TypeId) (cs : List AV) (wr : Option Nat) (o : Nat) : atCells Try.prog 52 (.cells ty cs wr) o = if o + 5 ≤ cs.length then some (.agg ((cs.drop o).take 5)) else none := atCells_agg ag52 sz52 _ _ _ _
theorem z52 : tzero Try.prog 52 = some ((.agg [.int .i64 0, .bool false, .int .i64 0, .int .i64 0, .nilsl])) := by kernel_rfl
@[simp] theorem pal52 : pal Try.prog 52 = some (52, [.int .i64 0, .bool false, .int .i64 0, .int .i64 0, .nilsl], .ptr) := by kernel_rfl
@[simp] theorem fa52_0 (b o : Nat) : pfieldAddr Try.prog 52 (.ptr b o) 0 = some (.ptr b o) := by kernel_rfl
@[simp] theorem fa52_1 (b o : Nat) : pfieldAddr Try.prog 52 (.ptr b o) 1 = some (.ptr b (o + 1)) := by kernel_rfl
@[simp] theorem fa52_2 (b o : Nat) : pfieldAddr Try.prog 52 (.ptr b o) 2 = some (.ptr b (o + 2)) := by kernel_rfl
@[simp] theorem fa52_3 (b o : Nat) : pfieldAddr Try.prog 52 (.ptr b o) 3 = some (.ptr b (o + 3)) := by kernel_rfl
@[simp] theorem fa52_4 (b o : Nat) : pfieldAddr Try.prog 52 (.ptr b o) 4 = some (.ptr b (o + 4)) := by kernel_rfl
theorem pb52 (ps : List (Nat × AV)) : pbuild Try.prog 52 ps = bld [(0, 1), (1, 1), (2, 1), (3, 1), (4, 1)] [.int .i64 0, .bool false, .int .i64 0, .int .i64 0, .nilsl] ps := by kernel_rfl
theorem sz53 : tsz Try.prog 53 = some 1 := by kernel_rfl
theorem by53 : tbytes Try.prog 53 = some 24 := by kernel_rfl
theorem ag53 : isAggT Try.prog 53 = some false := by kernel_rfl
@[simp] theorem ac53 (ty : TypeId) (cs : List AV) (wr : Option Nat) (o : Nat) : atCells Try.prog 53 (.cells ty cs wr) o = cs[o]? := atCells_one ag53 _ _ _ _
theorem z53 : tzero Try.prog 53 = some (.nilsl) := by kernel_rfl
theorem sl53 : Try.prog.underlying 53 = some (.slice 78) := by kernel_rfl
theorem sz54 : tsz Try.prog 54 = some 1 := by kernel_rfl
theorem by54 : tbytes Try.prog 54 = some 24 := by kernel_rfl
theorem ag54 : isAggT Try.prog 54 = some false := by kernel_rfl
@[simp] theorem ac54 (ty : TypeId) (cs : List AV) (wr : Option Nat) (o : Nat) : atCells Try.prog 54 (.cells ty cs wr) o = cs[o]? := atCells_one ag54 _ _ _ _
theorem z54 : tzero Try.prog 54 = some (.nilsl) := by kernel_rfl
theorem sl54 : Try.prog.underlying 54 = some (.slice 82) := by kernel_rfl
theorem sz56 : tsz Try.prog 56 = some 18 := by kernel_rfl
theorem by56 : tbytes Try.prog 56 = some 224 := by kernel_rfl
theorem ag56 : isAggT Try.prog 56 = some true := by kernel_rfl
@[simp] theorem ac56 (ty : TypeId) (cs : List AV) (wr : Option Nat) (o : Nat) : atCells Try.prog 56 (.cells ty cs wr) o = if o + 18 ≤ cs.length then some (.agg ((cs.drop o).take 18)) else none := atCells_agg ag56 sz56 _ _ _ _
theorem z56 : tzero Try.prog 56 = some ((.agg [.nilsl, .int .i64 0, .int .i64 0, .int .i64 0, .int .i64 0, .nilsl, .int .i64 0, .int .i64 0, .int .i64 0, .int .i64 0, .bool false, .int .i64 0, .bool false, .int .i64 0, .int .i64 0, .nilsl, .nilsl, .nilsl])) := by kernel_rfl
@[simp] theorem pal56 : pal Try.prog 56 = some (56, [.nilsl, .int .i64 0, .int .i64 0, .int .i64 0, .int .i64 0, .nilsl, .int .i64 0, .int .i64 0, .int .i64 0, .int .i64 0, .bool false, .int .i64 0, .bool false, .int .i64 0, .int .i64 0, .nilsl, .nilsl, .nilsl], .ptr) := by kernel_rfl
@[simp] theorem fa56_0 (b o : Nat) : pfieldAddr Try.prog 56 (.ptr b o) 0 = some (.ptr b o) := by kernel_rfl
@[simp] theorem fa56_1 (b o : Nat) : pfieldAddr Try.prog 56 (.ptr b o) 1 = some (.ptr b (o + 1)) := by kernel_rfl
@[simp] theorem fa56_2 (b o : Nat) : pfieldAddr Try.prog 56 (.ptr b o) 2 = some (.ptr b (o + 2)) := by kernel_rfl
@[simp] theorem fa56_3 (b o : Nat) : pfieldAddr Try.prog 56 (.ptr b o) 3 = some (.ptr b (o + 3)) := by kernel_rfl
@[simp] theorem fa56_4 (b o : Nat) : pfieldAddr Try.prog 56 (.ptr b o) 4 = some (.ptr b (o + 4)) := by kernel_rfl
@[simp] theorem fa56_5 (b o : Nat) : pfieldAddr Try.prog 56 (.ptr b o) 5 = some (.ptr b (o + 5)) := by kernel_rfl
@[simp] theorem fa56_6 (b o : Nat) : pfieldAddr Try.prog 56 (.ptr b o) 6 = some (.ptr b (o + 6)) := by kernel_rfl
@[simp] theorem fa56_7 (b o : Nat) : pfieldAddr Try.prog 56 (.ptr b o) 7 = some (.ptr b (o + 7)) := by kernel_rfl
@[simp] theorem fa56_8 (b o : Nat) : pfieldAddr Try.prog 56 (.ptr b o) 8 = some (.ptr b (o + 8)) := by kernel_rfl
@[simp] theorem fa56_9 (b o : Nat) : pfieldAddr Try.prog 56 (.ptr b o) 9 = some (.ptr b (o + 9)) := by kernel_rfl
@[simp] theorem fa56_10 (b o : Nat) : pfieldAddr Try.prog 56 (.ptr b o) 10 = some (.ptr b (o + 10)) := by kernel_rfl
@[simp] theorem fa56_11 (b o : Nat) : pfieldAddr Try.prog 56 (.ptr b o) 11 = some (.ptr b (o + 11)) := by kernel_rfl
@[simp] theorem fa56_12 (b o : Nat) : pfieldAddr Try.prog 56 (.ptr b o) 12 = some (.ptr b (o + 16)) := by kernel_rfl
@[simp] theorem fa56_13 (b o : Nat) : pfieldAddr Try.prog 56 (.ptr b o) 13 = some (.ptr b (o + 17)) := by kernel_rfl
theorem pb56 (ps : List (Nat × AV)) : pbuild Try.prog 56 ps = bld [(0, 1), (1, 1), (2, 1), (3, 1), (4, 1), (5, 1), (6, 1), (7, 1), (8, 1), (9, 1), (10, 1), (11, 5), (16, 1), (17, 1)] [.nilsl, .int .i64 0, .int .i64 0, .int .i64 0, .int .i64 0, .nilsl, .int .i64 0, .int .i64 0, .int .i64 0, .int .i64 0, .bool false, .int .i64 0, .bool false, .int .i64 0, .int .i64 0, .nilsl, .nilsl, .nilsl] ps := by kernel_rfl
theorem sz57 : tsz Try.prog 57 = some 1 := by kernel_rfl
theorem by57 : tbytes Try.prog 57 = some 24 := by kernel_rfl
theorem ag57 : isAggT Try.prog 57 = some false := by kernel_rfl
@[simp] theorem ac57 (ty : TypeId) (cs : List AV) (wr : Option Nat) (o : Nat) : atCells Try.prog 57 (.cells ty cs wr) o = cs[o]? := atCells_one ag57 _ _ _ _
theorem z57 : tzero Try.prog 57 = some (.nilsl) := by kernel_rfl
theorem sl57 : Try.prog.underlying 57 = some (.slice 94) := by kernel_rfl
theorem sz58 : tsz Try.prog 58 = some 1 := by kernel_rfl
theorem by58 : tbytes Try.prog 58 = some 24 := by kernel_rfl
theorem ag58 : isAggT Try.prog 58 = some false := by kernel_rfl
@[simp] theorem ac58 (ty : TypeId) (cs : List AV) (wr : Option Nat) (o : Nat) : atCells Try.prog 58 (.cells ty cs wr) o = cs[o]? := atCells_one ag58 _ _ _ _
theorem z58 : tzero Try.prog 58 = some (.nilsl) := by kernel_rfl
theorem sl58 : Try.prog.underlying 58 = some (.slice 103) := by kernel_rfl
theorem sz60 : tsz Try.prog 60 = some 15 := by kernel_rfl
theorem by60 : tbytes Try.prog 60 = some 184 := by kernel_rfl
theorem ag60 : isAggT Try.prog 60 = some true := by kernel_rfl
@[simp] theorem ac60 (ty : TypeId) (cs : List AV) (wr : Option Nat) (o : Nat) : atCells Try.prog 60 (.cells ty cs wr) o = if o + 15 ≤ cs.length then some (.agg ((cs.drop o).take 15)) else none := atCells_agg ag60 sz60 _ _ _ _
theorem z60 : tzero Try.prog 60 = some ((.agg [.nilsl, .int .i64 0, .int .i64 0, .int .i64 0, .int .i64 0, .nilsl, .int .i64 0, .int .i64 0, .int .i64 0, .int .i64 0, .bool false, .int .i64 0, .int .i64 0, .nilsl, .nilsl])) := by kernel_rfl
@[simp] theorem pal60 : pal Try.prog 60 = some (60, [.nilsl, .int .i64 0, .int .i64 0, .int .i64 0, .int .i64 0, .nilsl, .int .i64 0, .int .i64 0, .int .i64 0, .int .i64 0, .bool false, .int .i64 0, .int .i64 0, .nilsl, .nilsl], .ptr) := by kernel_rfl
@[simp] theorem fa60_0 (b o : Nat) : pfieldAddr Try.prog 60 (.ptr b o) 0 = some (.ptr b o) := by kernel_rfl
@[simp] theorem fa60_1 (b o : Nat) : pfieldAddr Try.prog 60 (.ptr b o) 1 = some (.ptr b (o + 1)) := by kernel_rfl
@[simp] theorem fa60_2 (b o : Nat) : pfieldAddr Try.prog 60 (.ptr b o) 2 = some (.ptr b (o + 2)) := by kernel_rfl
@[simp] theorem fa60_3 (b o : Nat) : pfieldAddr Try.prog 60 (.ptr b o) 3 = some (.ptr b (o + 3)) := by kernel_rfl
@[simp] theorem fa60_4 (b o : Nat) : pfieldAddr Try.prog 60 (.ptr b o) 4 = some (.ptr b (o + 4)) := by kernel_rfl
@[simp] theorem fa60_5 (b o : Nat) : pfieldAddr Try.prog 60 (.ptr b o) 5 = some (.ptr b (o + 5)) := by kernel_rfl
@[simp] theorem fa60_6 (b o : Nat) : pfieldAddr Try.prog 60 (.ptr b o) 6 = some (.ptr b (o + 6)) := by kernel_rfl
@[simp] theorem fa60_7 (b o : Nat) : pfieldAddr Try.prog 60 (.ptr b o) 7 = some (.ptr b (o + 7)) := by kernel_rfl
@[simp] theorem fa60_8 (b o : Nat) : pfieldAddr Try.prog 60 (.ptr b o) 8 = some (.ptr b (o + 8)) := by kernel_rfl
@[simp] theorem fa60_9 (b o : Nat) : pfieldAddr Try.prog 60 (.ptr b o) 9 = some (.ptr b (o + 9)) := by kernel_rfl
@[simp] theorem fa60_10 (b o : Nat) : pfieldAddr Try.prog 60 (.ptr b o) 10 = some (.ptr b (o + 10)) := by kernel_rfl
@[simp] theorem fa60_11 (b o : Nat) : pfieldAddr Try.prog 60 (.ptr b o) 11 = some (.ptr b (o + 11)) := by kernel_rfl
@[simp] theorem fa60_12 (b o : Nat) : pfieldAddr Try.prog 60 (.ptr b o) 12 = some (.ptr b (o + 12)) := by kernel_rfl
@[simp] theorem fa60_13 (b o : Nat) : pfieldAddr Try.prog 60 (.ptr b o) 13 = some (.ptr b (o + 13)) := by kernel_rfl
@[simp] theorem fa60_14 (b o : Nat) : pfieldAddr Try.prog 60 (.ptr b o) 14 = some (.ptr b (o + 14)) := by kernel_rfl
theorem pb60 (ps : List (Nat × AV)) : pbuild Try.prog 60 ps = bld [(0, 1), (1, 1), (2, 1), (3, 1), (4, 1), (5, 1), (6, 1), (7, 1), (8, 1), (9, 1), (10, 1), (11, 1), (12, 1), (13, 1), (14, 1)] [.nilsl, .int .i64 0, .int .i64 0, .int .i64 0, .int .i64 0, .nilsl, .int .i64 0, .int .i64 0, .int .i64 0, .int .i64 0, .bool false, .int .i64 0, .int .i64 0, .nilsl, .nilsl] ps := by kernel_rfl
theorem sz63 : tsz Try.prog 63 = some 1 := by kernel_rfl
theorem by63 : tbytes Try.prog 63 = some 24 := by kernel_rfl
theorem ag63 : isAggT Try.prog 63 = some false := by kernel_rfl
@[simp] theorem ac63 (ty : TypeId) (cs : List AV) (wr : Option Nat) (o : Nat) : atCells Try.prog 63 (.cells ty cs wr) o = cs[o]? := atCells_one ag63 _ _ _ _
theorem z63 : tzero Try.prog 63 = some (.nilsl) := by kernel_rfl
theorem sl63 : Try.prog.underlying 63 = some (.slice 34) := by kernel_rfl
theorem sz68 : tsz Try.prog 68 = some 1 := by kernel_rfl
theorem by68 : tbytes Try.prog 68 = some 24 := by kernel_rfl
theorem ag68 : isAggT Try.prog 68 = some false := by kernel_rfl
@[simp] theorem ac68 (ty : TypeId) (cs : List AV) (wr : Option Nat) (o : Nat) : atCells Try.prog 68 (.cells ty cs wr) o = cs[o]? := atCells_one ag68 _ _ _ _
theorem z68 : tzero Try.prog 68 = some (.nilsl) := by kernel_rfl
theorem sl68 : Try.prog.underlying 68 = some (.slice 105) := by kernel_rfl
theorem sz78 : tsz Try.prog 78 = some 6 := by kernel_rfl
theorem by78 : tbytes Try.prog 78 = some 64 := by kernel_rfl
theorem ag78 : isAggT Try.prog 78 = some true := by kernel_rfl
@[simp] theorem ac78 (ty : TypeId) (cs : List AV) (wr : Option Nat) (o : Nat) : atCells Try.prog 78 (.cells ty cs wr) o = if o + 6 ≤ cs.length then some (.agg ((cs.drop o).take 6)) else none := atCells_agg ag78 sz78 _ _ _ _
theorem z78 : tzero Try.prog 78 = some ((.agg [.int .i64 0, .bool false, .int .i64 0, .int .i64 0, .nilsl, .int .i64 0])) := by kernel_rfl
@[simp] theorem pal78 : pal Try.prog 78 = some (78, [.int .i64 0, .bool false, .int .i64 0, .int .i64 0, .nilsl, .int .i64 0], .ptr) := by kernel_rfl
@[simp] theorem fa78_0 (b o : Nat) : pfieldAddr Try.prog 78 (.ptr b o) 0 = some (.ptr b o) := by kernel_rfl
@[simp] theorem fa78_1 (b o : Nat) : pfieldAddr Try.prog 78 (.ptr b o) 1 = some (.ptr b (o + 5)) := by kernel_rfl
theorem pb78 (ps : List (Nat × AV)) : pbuild Try.prog 78 ps = bld [(0, 5), (5, 1)] [.int .i64 0, .bool false, .int .i64 0, .int .i64 0, .nilsl, .int .i64 0] ps := by kernel_rfl
theorem sz79 : tsz Try.prog 79 = some 1 := by kernel_rfl
theorem by79 : tbytes Try.prog 79 = some 24 := by kernel_rfl
theorem ag79 : isAggT Try.prog 79 = some false := by kernel_rfl
@[simp] theorem ac79 (ty : TypeId) (cs : List AV) (wr : Option Nat) (o : Nat) : atCells Try.prog 79 (.cells ty cs wr) o = cs[o]? := atCells_one ag79 _ _ _ _
theorem z79 : tzero Try.prog 79 = some (.nilsl) := by kernel_rfl
theorem sl79 : Try.prog.underlying 79 = some (.slice 3) := by kernel_rfl
theorem sz82 : tsz Try.prog 82 = some 6 := by kernel_rfl
theorem by82 : tbytes Try.prog 82 = some 64 := by kernel_rfl
theorem ag82 : isAggT Try.prog 82 = some true := by kernel_rfl
@[simp] theorem ac82 (ty : TypeId) (cs : List AV) (wr : Option Nat) (o : Nat) : atCells Try.prog 82 (.cells ty cs wr) o = if o + 6 ≤ cs.length then some (.agg ((cs.drop o).take 6)) else none := atCells_agg ag82 sz82 _ _ _ _
theorem z82 : tzero Try.prog 82 = some ((.agg [.int .i64 0, .int .i64 0, .bool false, .int .i64 0, .int .i64 0, .nilsl])) := by kernel_rfl
@[simp] theorem pal82 : pal Try.prog 82 = some (82, [.int .i64 0, .int .i64 0, .bool false, .int .i64 0, .int .i64 0, .nilsl], .ptr) := by kernel_rfl
@[simp] theorem fa82_0 (b o : Nat) : pfieldAddr Try.prog 82 (.ptr b o) 0 = some (.ptr b o) := by kernel_rfl
@[simp] theorem fa82_1 (b o : Nat) : pfieldAddr Try.prog 82 (.ptr b o) 1 = some (.ptr b (o + 1)) := by kernel_rfl
theorem pb82 (ps : List (Nat × AV)) : pbuild Try.prog 82 ps = bld [(0, 1), (1, 5)] [.int .i64 0, .int .i64 0, .bool false, .int .i64 0, .int .i64 0, .nilsl] ps := by kernel_rfl
theorem sz89 : tsz Try.prog 89 = some 1 := by kernel_rfl
theorem by89 : tbytes Try.prog 89 = some 8 := by kernel_rfl
theorem ag89 : isAggT Try.prog 89 = some false := by kernel_rfl
@[simp] theorem ac89 (ty : TypeId) (cs : List AV) (wr : Option Nat) (o : Nat) : atCells Try.prog 89 (.cells ty cs wr) o = cs[o]? := atCells_one ag89 _ _ _ _
theorem z89 : tzero Try.prog 89 = some (.int .u64 0) := by kernel_rfl
theorem it89 : Try.prog.underlying 89 = some (.int .u64) := by kernel_rfl
theorem sz92 : tsz Try.prog 92 = some 5 := by kernel_rfl
theorem by92 : tbytes Try.prog 92 = some 56 := by kernel_rfl
theorem ag92 : isAggT Try.prog 92 = some true := by kernel_rfl
@[simp] theorem ac92 (ty : TypeId) (cs : List AV) (wr : Option Nat) (o : Nat) : atCells Try.prog 92 (.cells ty cs wr) o = if o + 5 ≤ cs.length then some (.agg ((cs.drop o).take 5)) else none := atCells_agg ag92 sz92 _ _ _ _
theorem z92 : tzero Try.prog 92 = some ((.agg [.int .i64 0, .bool false, .int .i64 0, .int .i64 0, .nilsl])) := by kernel_rfl
@[simp] theorem pal92 : pal Try.prog 92 = some (92, [.int .i64 0, .bool false, .int .i64 0, .int .i64 0, .nilsl], .ptr) := by kernel_rfl
@[simp] theorem fa92_0 (b o : Nat) : pfieldAddr Try.prog 92 (.ptr b o) 0 = some (.ptr b o) := by kernel_rfl
@[simp] theorem fa92_1 (b o : Nat) : pfieldAddr Try.prog 92 (.ptr b o) 1 = some (.ptr b (o + 1)) := by kernel_rfl
@[simp] theorem fa92_2 (b o : Nat) : pfieldAddr Try.prog 92 (.ptr b o) 2 = some (.ptr b (o + 2)) := by kernel_rfl
@[simp] theorem fa92_3 (b o : Nat) : pfieldAddr Try.prog 92 (.ptr b o) 3 = some (.ptr b (o + 3)) := by kernel_rfl
@[simp] theorem fa92_4 (b o : Nat) : pfieldAddr Try.prog 92 (.ptr b o) 4 = some (.ptr b (o + 4)) := by kernel_rfl
theorem pb92 (ps : List (Nat × AV)) : pbuild Try.prog 92 ps = bld [(0, 1), (1, 1), (2, 1), (3, 1), (4, 1)] [.int .i64 0, .bool false, .int .i64 0, .int .i64 0, .nilsl] ps := by kernel_rfl
theorem sz94 : tsz Try.prog 94 = some 6 := by kernel_rfl
theorem by94 : tbytes Try.prog 94 = some 64 := by kernel_rfl
theorem ag94 : isAggT Try.prog 94 = some true := by kernel_rfl
@[simp] theorem ac94 (ty : TypeId) (cs : List AV) (wr : Option Nat) (o : Nat) : atCells Try.prog 94 (.cells ty cs wr) o = if o + 6 ≤ cs.length then some (.agg ((cs.drop o).take 6)) else none := atCells_agg ag94 sz94 _ _ _ _
theorem z94 : tzero Try.prog 94 = some ((.agg [.int .i64 0, .bool false, .int .i64 0, .int .i64 0, .nilsl, .int .i64 0])) := by kernel_rfl
@[simp] theorem pal94 : pal Try.prog 94 = some (94, [.int .i64 0, .bool false, .int .i64 0, .int .i64 0, .nilsl, .int .i64 0], .ptr) := by kernel_rfl
@[simp] theorem fa94_0 (b o : Nat) : pfieldAddr Try.prog 94 (.ptr b o) 0 = some (.ptr b o) := by kernel_rfl
@[simp] theorem fa94_1 (b o : Nat) : pfieldAddr Try.prog 94 (.ptr b o) 1 = some (.ptr b (o + 5)) := by kernel_rfl
theorem pb94 (ps : List (Nat × AV)) : pbuild Try.prog 94 ps = bld [(0, 5), (5, 1)] [.int .i64 0, .bool false, .int .i64 0, .int .i64 0, .nilsl, .int .i64 0] ps := by kernel_rfl
theorem sz103 : tsz Try.prog 103 = some 6 := by kernel_rfl
theorem by103 : tbytes Try.prog 103 = some 64 := by kernel_rfl
theorem ag103 : isAggT Try.prog 103 = some true := by kernel_rfl
@[simp] theorem ac103 (ty : TypeId) (cs : List AV) (wr : Option Nat) (o : Nat) : atCells Try.prog 103 (.cells ty cs wr) o = if o + 6 ≤ cs.length then some (.agg ((cs.drop o).take 6)) else none := atCells_agg ag103 sz103 _ _ _ _
theorem z103 : tzero Try.prog 103 = some ((.agg [.int .i64 0, .int .i64 0, .bool false, .int .i64 0, .int .i64 0, .nilsl])) := by kernel_rfl
@[simp] theorem pal103 : pal Try.prog 103 = some (103, [.int .i64 0, .int .i64 0, .bool false, .int .i64 0, .int .i64 0, .nilsl], .ptr) := by kernel_rfl
@[simp] theorem fa103_0 (b o : Nat) : pfieldAddr Try.prog 103 (.ptr b o) 0 = some (.ptr b o) := by kernel_rfl
@[simp] theorem fa103_1 (b o : Nat) : pfieldAddr Try.prog 103 (.ptr b o) 1 = some (.ptr b (o + 1)) := by kernel_rfl
theorem pb103 (ps : List (Nat × AV)) : pbuild Try.prog 103 ps = bld [(0, 1), (1, 5)] [.int .i64 0, .int .i64 0, .bool false, .int .i64 0, .int .i64 0, .nilsl] ps := by kernel_rfl
theorem sz105 : tsz Try.prog 105 = some 2 := by kernel_rfl
theorem by105 : tbytes Try.prog 105 = some 32 := by kernel_rfl
theorem ag105 : isAggT Try.prog 105 = some true := by kernel_rfl
@[simp] theorem ac105 (ty : TypeId) (cs : List AV) (wr : Option Nat) (o : Nat) : atCells Try.prog 105 (.cells ty cs wr) o = if o + 2 ≤ cs.length then some (.agg ((cs.drop o).take 2)) else none := atCells_agg ag105 sz105 _ _ _ _
theorem z105 : tzero Try.prog 105 = some ((.agg [.int .i64 0, .nilsl])) := by kernel_rfl
@[simp] theorem pal105 : pal Try.prog 105 = some (105, [.int .i64 0, .nilsl], .ptr) := by kernel_rfl
@[simp] theorem fa105_0 (b o : Nat) : pfieldAddr Try.prog 105 (.ptr b o) 0 = some (.ptr b o) := by kernel_rfl
@[simp] theorem fa105_1 (b o : Nat) : pfieldAddr Try.prog 105 (.ptr b o) 1 = some (.ptr b (o + 1)) := by kernel_rfl
theorem pb105 (ps : List (Nat × AV)) : pbuild Try.prog 105 ps = bld [(0, 1), (1, 1)] [.int .i64 0, .nilsl] ps := by kernel_rfl
theorem sz110 : tsz Try.prog 110 = some 2 := by kernel_rfl
theorem by110 : tbytes Try.prog 110 = some 16 := by kernel_rfl
theorem ag110 : isAggT Try.prog 110 = some true := by kernel_rfl
@[simp] theorem ac110 (ty : TypeId) (cs : List AV) (wr : Option Nat) (o : Nat) : atCells Try.prog 110 (.cells ty cs wr) o = if o + 2 ≤ cs.length then some (.agg ((cs.drop o).take 2)) else none := atCells_agg ag110 sz110 _ _ _ _
theorem z110 : tzero Try.prog 110 = some ((.agg [.int .i64 0, .int .i64 0])) := by kernel_rfl
@[simp] theorem pal110 : pal Try.prog 110 = some (110, [.int .i64 0, .int .i64 0], .ptr) := by kernel_rfl
@[simp] theorem fa110_0 (b o : Nat) : pfieldAddr Try.prog 110 (.ptr b o) 0 = some (.ptr b o) := by kernel_rfl
@[simp] theorem fa110_1 (b o : Nat) : pfieldAddr Try.prog 110 (.ptr b o) 1 = some (.ptr b (o + 1)) := by kernel_rfl
theorem pb110 (ps : List (Nat × AV)) : pbuild Try.prog 110 ps = bld [(0, 1), (1, 1)] [.int .i64 0, .int .i64 0] ps := by kernel_rfl
theorem sz111 : tsz Try.prog 111 = some 8 := by kernel_rfl
theorem by111 : tbytes Try.prog 111 = some 64 := by kernel_rfl
theorem ag111 : isAggT Try.prog 111 = some true := by kernel_rfl
@[simp] theorem ac111 (ty : TypeId) (cs : List AV) (wr : Option Nat) (o : Nat) : atCells Try.prog 111 (.cells ty cs wr) o = if o + 8 ≤ cs.length then some (.agg ((cs.drop o).take 8)) else none := atCells_agg ag111 sz111 _ _ _ _
theorem z111 : tzero Try.prog 111 = some ((.agg [.int .i64 0, .int .i64 0, .int .i64 0, .int .i64 0, .int .i64 0, .int .i64 0, .int .i64 0, .int .i64 0])) := by kernel_rfl
@[simp] theorem pal111 : pal Try.prog 111 = some (111, [.int .i64 0, .int .i64 0, .int .i64 0, .int .i64 0, .int .i64 0, .int .i64 0, .int .i64 0, .int .i64 0], .ptr) := by kernel_rfl
@[simp] theorem ia111 (b o i : Nat) : pindexAddr Try.prog 111 (.ptr b o) (.int .i64 (i : Int)) = if i < 4 then some (.ptr b (o + i * 2)) else none := by simp only [pindexAddr, nat?, Int.natCast_nonneg, if_true, Int.toNat_natCast, show Try.prog.underlying 111 = some (.array 4 110) from by kernel_rfl, sz110]
theorem sz114 : tsz Try.prog 114 = some 1 := by kernel_rfl
theorem by114 : tbytes Try.prog 114 = some 8 := by kernel_rfl
theorem ag114 : isAggT Try.prog 114 = some false := by kernel_rfl
@[simp] theorem ac114 (ty : TypeId) (cs : List AV) (wr : Option Nat) (o : Nat) : atCells Try.prog 114 (.cells ty cs wr) o = cs[o]? := atCells_one ag114 _ _ _ _
theorem z114 : tzero Try.prog 114 = some (.int .u64 0) := by kernel_rfl
theorem it114 : Try.prog.underlying 114 = some (.int .u64) := by kernel_rfl
theorem sz117 : tsz Try.prog 117 = some 1 := by kernel_rfl
theorem by117 : tbytes Try.prog 117 = some 4 := by kernel_rfl
theorem ag117 : isAggT Try.prog 117 = some false := by kernel_rfl
@[simp] theorem ac117 (ty : TypeId) (cs : List AV) (wr : Option Nat) (o : Nat) : atCells Try.prog 117 (.cells ty cs wr) o = cs[o]? := atCells_one ag117 _ _ _ _
theorem z117 : tzero Try.prog 117 = some (.int .u32 0) := by kernel_rfl
theorem it117 : Try.prog.underlying 117 = some (.int .u32) := by kernel_rfl
theorem sz122 : tsz Try.prog 122 = some 24 := by kernel_rfl
theorem by122 : tbytes Try.prog 122 = some 24 := by kernel_rfl
theorem ag122 : isAggT Try.prog 122 = some true := by kernel_rfl
@[simp] theorem ac122 (ty : TypeId) (cs : List AV) (wr : Option Nat) (o : Nat) : atCells Try.prog 122 (.cells ty cs wr) o = if o + 24 ≤ cs.length then some (.agg ((cs.drop o).take 24)) else none := atCells_agg ag122 sz122 _ _ _ _
theorem z122 : tzero Try.prog 122 = some ((.agg [.int .u8 0, .int .u8 0, .int .u8 0, .int .u8 0, .int .u8 0, .int .u8 0, .int .u8 0, .int .u8 0, .int .u8 0, .int .u8 0, .int .u8 0, .int .u8 0, .int .u8 0, .int .u8 0, .int .u8 0, .int .u8 0, .int .u8 0, .int .u8 0, .int .u8 0, .int .u8 0, .int .u8 0, .int .u8 0, .int .u8 0, .int .u8 0])) := by kernel_rfl
@[simp] theorem pal122 : pal Try.prog 122 = some (122, [.int .u8 0, .int .u8 0, .int .u8 0, .int .u8 0, .int .u8 0, .int .u8 0, .int .u8 0, .int .u8 0, .int .u8 0, .int .u8 0, .int .u8 0, .int .u8 0, .int .u8 0, .int .u8 0, .int .u8 0, .int .u8 0, .int .u8 0, .int .u8 0, .int .u8 0, .int .u8 0, .int .u8 0, .int .u8 0, .int .u8 0, .int .u8 0], .ptr) := by kernel_rfl
@[simp] theorem ia122 (b o i : Nat) : pindexAddr Try.prog 122 (.ptr b o) (.int .i64 (i : Int)) = if i < 24 then some (.ptr b (o + i * 1)) else none := by simp only [pindexAddr, nat?, Int.natCast_nonneg, if_true, Int.toNat_natCast, show Try.prog.underlying 122 = some (.array 24 5) from by kernel_rfl, sz5]
@[simp] theorem cv5_114 (k : IntKind) (n : Int) : pconv Try.prog 5 114 (.int k n) = some (.int .u64 ((IntKind.u64).wrap n)) := pconv_int it5 it114 k n
@[simp] theorem cv3_114 (k : IntKind) (n : Int) : pconv Try.prog 3 114 (.int k n) = some (.int .u64 ((IntKind.u64).wrap n)) := pconv_int it3 it114 k n
@[simp] theorem cv114_3 (k : IntKind) (n : Int) : pconv Try.prog 114 3 (.int k n) = some (.int .i64 ((IntKind.i64).wrap n)) := pconv_int it114 it3 k n
@[simp] theorem cv3_89 (k : IntKind) (n : Int) : pconv Try.prog 3 89 (.int k n) = some (.int .u64 ((IntKind.u64).wrap n)) := pconv_int it3 it89 k n
@[simp] theorem cv89_117 (k : IntKind) (n : Int) : pconv Try.prog 89 117 (.int k n) = some (.int .u32 ((IntKind.u32).wrap n)) := pconv_int it89 it117 k n
@[simp] theorem cv5_3 (k : IntKind) (n : Int) : pconv Try.prog 5 3 (.int k n) = some (.int .i64 ((IntKind.i64).wrap n)) := pconv_int it5 it3 k n
@[simp] theorem cv3_5 (k : IntKind) (n : Int) : pconv Try.prog 3 5 (.int k n) = some (.int .u8 ((IntKind.u8).wrap n)) := pconv_int it3 it5 k n
@[simp] theorem cv2_114 (k : IntKind) (n : Int) : pconv Try.prog 2 114 (.int k n) = some (.int .u64 ((IntKind.u64).wrap n)) := pconv_int it2 it114 k n
@[simp] theorem cv117_89 (k : IntKind) (n : Int) : pconv Try.prog 117 89 (.int k n) = some (.int .u64 ((IntKind.u64).wrap n)) := pconv_int it117 it89 k n
@[simp] theorem cv117_114 (k : IntKind) (n : Int) : pconv Try.prog 117 114 (.int k n) = some (.int .u64 ((IntKind.u64).wrap n)) := pconv_int it117 it114 k n
@[simp] theorem cv114_5 (k : IntKind) (n : Int) : pconv Try.prog 114 5 (.int k n) = some (.int .u8 ((IntKind.u8).wrap n)) := pconv_int it114 it5 k n
@[simp] theorem cv114_2 (k : IntKind) (n : Int) : pconv Try.prog 114 2 (.int k n) = some (.int .i64 ((IntKind.i64).wrap n)) := pconv_int it114 it2 k n
@[simp] theorem cv114_117 (k : IntKind) (n : Int) : pconv Try.prog 114 117 (.int k n) = some (.int .u32 ((IntKind.u32).wrap n)) := pconv_int it114 it117 k n
@[simp] theorem eqb4 (x y : Operand) (a b : Bool) : bin2 Try.prog .eql 4 x y (some (.bool a)) (some (.bool b)) = some (.bool (a == b)) := bin2_eql_bool bt4 x y a b
@[simp] theorem neb4 (x y : Operand) (a b : Bool) : bin2 Try.prog .neq 4 x y (some (.bool a)) (some (.bool b)) = some (.bool (!(a == b))) := bin2_neq_bool bt4 x y a b
@[simp] theorem eqp27 (x y : Operand) (b o : Nat) : bin2 Try.prog .eql 27 x y (some (.ptr b o)) (some .nilptr) = some (.bool false) := bin2_eql_ptr pt27 x y b o
@[simp] theorem eqn27 (x y : Operand) : bin2 Try.prog .eql 27 x y (some .nilptr) (some .nilptr) = some (.bool true) := bin2_eql_nilptr pt27 x y
@[simp] theorem eqp31 (x y : Operand) (b o : Nat) : bin2 Try.prog .eql 31 x y (some (.ptr b o)) (some .nilptr) = some (.bool false) := bin2_eql_ptr pt31 x y b o
@[simp] theorem eqn31 (x y : Operand) : bin2 Try.prog .eql 31 x y (some .nilptr) (some .nilptr) = some (.bool true) := bin2_eql_nilptr pt31 x y
@[simp] theorem ia111_0 (b o : Nat) : pindexAddr Try.prog 111 (.ptr b o) (.int .i64 0) = some (.ptr b o) := by kernel_rfl
@[simp] theorem ia111_1 (b o : Nat) : pindexAddr Try.prog 111 (.ptr b o) (.int .i64 1) = some (.ptr b (o + 2)) := by kernel_rfl
@[simp] theorem ia111_2 (b o : Nat) : pindexAddr Try.prog 111 (.ptr b o) (.int .i64 2) = some (.ptr b (o + 4)) := by kernel_rfl
@[simp] theorem ia111_3 (b o : Nat) : pindexAddr Try.prog 111 (.ptr b o) (.int .i64 3) = some (.ptr b (o + 6)) := by kernel_rfl
@[simp] theorem ia122_0 (b o : Nat) : pindexAddr Try.prog 122 (.ptr b o) (.int .i64 0) = some (.ptr b o) := by kernel_rfl
@[simp] theorem ia122_1 (b o : Nat) : pindexAddr Try.prog 122 (.ptr b o) (.int .i64 1) = some (.ptr b (o + 1)) := by kernel_rfl
@[simp] theorem hb3 : hasBody Try.prog 3 = true := by kernel_rfl
@[simp] theorem hb4 : hasBody Try.prog 4 = true := by kernel_rfl
@[simp] theorem hb5 : hasBody Try.prog 5 = true := by kernel_rfl
@[simp] theorem hb6 : hasBody Try.prog 6 = true := by kernel_rfl
@[simp] theorem hb7 : hasBody Try.prog 7 = true := by kernel_rfl
@[simp] theorem hb8 : hasBody Try.prog 8 = true := by kernel_rfl
@[simp] theorem hb9 : hasBody Try.prog 9 = true := by kernel_rfl
@[simp] theorem hb10 : hasBody Try.prog 10 = true := by kernel_rfl
@[simp] theorem hb11 : hasBody Try.prog 11 = true := by kernel_rfl
@[simp] theorem hb12 : hasBody Try.prog 12 = true := by kernel_rfl
@[simp] theorem hb13 : hasBody Try.prog 13 = true := by kernel_rfl
@[simp] theorem hb14 : hasBody Try.prog 14 = true := by kernel_rfl
@[simp] theorem hb15 : hasBody Try.prog 15 = true := by kernel_rfl
@[simp] theorem hb16 : hasBody Try.prog 16 = true := by kernel_rfl
@[simp] theorem hb17 : hasBody Try.prog 17 = true := by kernel_rfl
@[simp] theorem hb18 : hasBody Try.prog 18 = true := by kernel_rfl
@[simp] theorem hb19 : hasBody Try.prog 19 = true := by kernel_rfl
@[simp] theorem hb20 : hasBody Try.prog 20 = true := by kernel_rfl
@[simp] theorem hb21 : hasBody Try.prog 21 = true := by kernel_rfl
@[simp] theorem hb22 : hasBody Try.prog 22 = true := by kernel_rfl
@[simp] theorem hb23 : hasBody Try.prog 23 = true := by kernel_rfl
@[simp] theorem hb24 : hasBody Try.prog 24 = true := by kernel_rfl
@[simp] theorem hb25 : hasBody Try.prog 25 = true := by kernel_rfl
@[simp] theorem hb26 : hasBody Try.prog 26 = true := by kernel_rfl
@[simp] theorem hb27 : hasBody Try.prog 27 = true := by kernel_rfl
@[simp] theorem hb28 : hasBody Try.prog 28 = true := by kernel_rfl
@[simp] theorem hb29 : hasBody Try.prog 29 = true := by kernel_rfl
@[simp] theorem hb30 : hasBody Try.prog 30 = true := by kernel_rfl
@[simp] theorem hb31 : hasBody Try.prog 31 = true := by kernel_rfl
@[simp] theorem hb32 : hasBody Try.prog 32 = true := by kernel_rfl
@[simp] theorem hb33 : hasBody Try.prog 33 = true := by kernel_rfl
@[simp] theorem hb34 : hasBody Try.prog 34 = true := by kernel_rfl
@[simp] theorem hb35 : hasBody Try.prog 35 = true := by kernel_rfl
@[simp] theorem hb36 : hasBody Try.prog 36 = true := by kernel_rfl
@[simp] theorem hb37 : hasBody Try.prog 37 = true := by kernel_rfl
@[simp] theorem hb38 : hasBody Try.prog 38 = true := by kernel_rfl
@[simp] theorem hb39 : hasBody Try.prog 39 = true := by kernel_rfl
@[simp] theorem hb40 : hasBody Try.prog 40 = true := by kernel_rfl
@[simp] theorem hb41 : hasBody Try.prog 41 = true := by kernel_rfl
@[simp] theorem hb42 : hasBody Try.prog 42 = true := by kernel_rfl
@[simp] theorem hb43 : hasBody Try.prog 43 = true := by kernel_rfl
@[simp] theorem hb44 : hasBody Try.prog 44 = true := by kernel_rfl
@[simp] theorem hb45 : hasBody Try.prog 45 = true := by kernel_rfl
@[simp] theorem hb46 : hasBody Try.prog 46 = true := by kernel_rfl
@[simp] theorem hb47 : hasBody Try.prog 47 = true := by kernel_rfl
@[simp] theorem hb48 : hasBody Try.prog 48 = true := by kernel_rfl
@[simp] theorem hb49 : hasBody Try.prog 49 = true := by kernel_rfl
@[simp] theorem hb50 : hasBody Try.prog 50 = true := by kernel_rfl
@[simp] theorem hb51 : hasBody Try.prog 51 = true := by kernel_rfl
@[simp] theorem hb52 : hasBody Try.prog 52 = true := by kernel_rfl
@[simp] theorem hb53 : hasBody Try.prog 53 = true := by kernel_rfl
@[simp] theorem hb54 : hasBody Try.prog 54 = true := by kernel_rfl
@[simp] theorem hb55 : hasBody Try.prog 55 = true := by kernel_rfl
@[simp] theorem hb56 : hasBody Try.prog 56 = true := by kernel_rfl
@[simp] theorem hb57 : hasBody Try.prog 57 = true := by kernel_rfl
@[simp] theorem hb58 : hasBody Try.prog 58 = true := by kernel_rfl
@[simp] theorem hb59 : hasBody Try.prog 59 = true := by kernel_rfl
@[simp] theorem hb60 : hasBody Try.prog 60 = true := by kernel_rfl
end Go.Eng.L35
