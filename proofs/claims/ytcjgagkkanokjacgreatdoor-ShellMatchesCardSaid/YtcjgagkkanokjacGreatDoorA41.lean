/- Law 41: what the program gives; awake, run. -/
import Derived.Test.YtcjgagkkanokjacGreatDoorE39d
import Derived.Test.YtcjgagkkanokjacGreatDoorE23
import Derived.Laws.Externs
import Derived.Lib.Bytealg
import Derived.Lib.MakeNoZero
import Derived.Test.YtcjgagkkanokjacGreatDoorProg
import Derived.KernelRfl
namespace Go.Eng.L41
open Go.Proofs Go.Eng
theorem ng_all : (Tryz.prog.funcs.all fun fn => !(fn.name == "runtime.NumGoroutine")) = true := by kernel_rfl
theorem ng (f : FuncId) (fn : Func) (hf : Tryz.prog.funcs[f]? = some fn) : (fn.name == "runtime.NumGoroutine") = false := by
  have := ng_all
  rw [Array.all_eq_true] at this
  obtain ⟨hl, rfl⟩ := Array.getElem?_eq_some_iff.1 hf
  have := this f hl
  simpa using this
theorem ib (s : ByteArray) (c : Int) (w : World) : (callFunc 47 #[.string s, .int .u8 c]).run Tryz.prog w = .ok (.value (.int .i64 (Lib.indexByte s.data.toList c.toNat.toUInt8))) w := by
  rw [run_callFunc_extern Tryz.func47 (by kernel_rfl) (by kernel_rfl) (by kernel_rfl) (e := Extern.BytealgIndexByte.indexByte) (by kernel_rfl), Lib.run_indexByteString]
  rfl
theorem cb (s : ByteArray) (c : Int) (w : World) : (callFunc 16 #[.string s, .int .u8 c]).run Tryz.prog w = .ok (.value (.int .i64 (Lib.countByte s.data.toList c.toNat.toUInt8 : Nat))) w := by
  rw [run_callFunc_extern Tryz.func16 (by kernel_rfl) (by kernel_rfl) (by kernel_rfl) (e := Extern.BytealgCount.count) (by kernel_rfl), Lib.run_countString]
  rfl
theorem ne (x : Value) (w : World) : (callFunc 145 #[x]).run Tryz.prog w = .ok (.value x) w := by
  rw [run_callFunc_extern Tryz.func145 (by kernel_rfl) (by kernel_rfl) (by kernel_rfl) (e := Extern.AbiNoEscape.same) (by kernel_rfl)]
  rfl
theorem mzt : Tryz.f214.resultTypes = #[130] := by kernel_rfl
theorem mz (n : Nat) (w : World) (hn : n ≤ 281474976710656) : ∃ cs : Array Value, (callFunc 214 #[.int .i64 n]).run Tryz.prog w = .ok (.value (.slice (some ⟨w.heap.size, 0, none⟩) n cs.size)) (w.drew.drew.alloc (.cells cs 5)) ∧ n ≤ cs.size := by
  obtain ⟨cs, h1, h2, _⟩ := Lib.run_makeNoZero (P := Tryz.prog) w Tryz.f214.params 130 5 (by kernel_rfl) n hn
  refine ⟨cs, ?_, h2⟩
  rw [run_callFunc_extern Tryz.func214 (by kernel_rfl) (by kernel_rfl) (by kernel_rfl) (e := Extern.BytealgMakeNoZero.makeNoZero Tryz.f214.params #[130]) (by kernel_rfl), h1]
  rfl
theorem pok : POk Tryz.prog where
  ng := ng
  mixed := by kernel_rfl
  fuel := by
    have h : (Tryz.prog.types.size == 0) = false := by kernel_rfl
    intro e; rw [e] at h; cases h
  ib := ib
  cb := cb
  ne := ne
  mz := mz
theorem caught_ok : CaughtOk Tryz.prog := by
  intro args w
  refine ⟨by kernel_rfl, ?_⟩
  refine callsDIn_of_wpSIn Tryz.func26 rfl trivial fun c₀ cs hm => ?_
  refine wpSIn_seq (wpSIn_region ?_)
  have hrec : recoverD (c₀ :: cs) = none := by simp [recoverD, hm]
  have h7 : 7 < (args ++ Array.replicate (Tryz.f26.ntmps - args.size) undef).size := by
    rw [show Tryz.f26.ntmps = 18 by rfl]
    simp; omega
  have h9 : 9 < (args ++ Array.replicate (Tryz.f26.ntmps - args.size) undef).size := by
    rw [show Tryz.f26.ntmps = 18 by rfl]
    simp; omega
  obtain ⟨t0, ht0⟩ : ∃ t0, t0 = args ++ Array.replicate (Tryz.f26.ntmps - args.size) undef := ⟨_, rfl⟩
  rw [← ht0] at h7 h9 ⊢
  show wpOpsSIn _ _ _ _ _ [0] _ _ _
  simp only [wpOpsSIn, List.getElem?_toArray, List.getElem?_cons_zero, Region.wanted, if_true]
  refine ⟨fun _ _ => trivial, ?_⟩
  have hex : ∀ ev, (execOp ev { dst := some 7, op := Op.call { callee := Callee.builtin Builtin.recover, args := #[], argTypes := #[] }, type := 20, pos := "parse.go:95", after := #[], guard := none }).run Tryz.prog w = .ok .recover w := fun ev => by
    simp [execOp, resolve, invoke, builtin]
  rw [hex]
  simp only [hrec]
  refine wpSIn_of_wpIn rfl ?_
  refine wpIn_block ?_
  refine wpIn_seq (wpIn_region_list ?_)
  simp only [wpListIn, Region.wanted, if_true]
  refine ⟨fun _ _ => trivial, ?_⟩
  rw [show (Fence.wide).round = none from rfl, Oper.semAt_none]
  obtain ⟨a1, ha1⟩ : ∃ a1, a1 = ({ tmps := t0, defers := [] } : Act).put (some 7) Value.nilIface := ⟨_, rfl⟩
  have e7 : a1.tmps[7]? = some .nilIface := by rw [ha1]; simp [Act.put, h7]
  have s1 : 9 < a1.tmps.size := by rw [ha1]; simpa [Act.put] using h9
  have d1 : a1.defers = [] := by rw [ha1]; rfl
  rw [← ha1]
  have hev : EvRel (fun _ => none) (fun x => match x with | .tmp 7 => some .nilIface | .const .nilIface => some .nilIface | _ => none) a1.eval := by
    intro x v hv
    simp only at hv
    split at hv
    · cases hv; simp [Act.eval, e7, conc]
    · cases hv; simp [Act.eval, conc]
    · cases hv
  obtain ⟨c, hc1, hc2⟩ := ppure_sound (P := Tryz.prog) (o := { dst := some 9, op := Op.binOp BinOp.eql 20 (Operand.tmp 7) (Operand.const Value.nilIface) 20, type := 4, pos := "parse.go:95", after := #[], guard := none }) (v := .bool true) (by kernel_rfl) hev
  rw [hc2, Oper.uponIn_value]
  obtain rfl : c = .bool true := by simpa [conc] using hc1.symm
  have e9 : (a1.put (some 9) (.bool true)).tmps[9]? = some (.bool true) := by simp [Act.put, s1]
  refine wpIn_cond_true (by simp [Act.eval, e9]) (wpIn_region_list ?_)
  simp only [wpListIn, Region.wanted, if_true]
  refine ⟨fun _ _ => trivial, ?_⟩
  rw [show (Fence.wide).round = none from rfl, Oper.semAt_none]
  have hmv : ∀ (ev : Operand → Value), (execOp ev { dst := some 4, op := Op.assign (Operand.tmp 7), type := 20, pos := "parse.go:95", after := #[], guard := none }).run Tryz.prog w = .ok (.value (ev (.tmp 7))) w := fun ev => rfl
  rw [hmv, Oper.uponIn_value]
  have hd : (((a1.put (some 9) (.bool true)).put (some 4) ((a1.put (some 9) (.bool true)).eval (.tmp 7))).defers) = [] := by simp [Act.put, d1]
  refine ⟨hd, .returning, ?_, .tuple #[], ?_, rfl, ⟨_, rfl⟩, rfl⟩
  · rw [← hm]
  · simp [results, show Tryz.f26.results = #[] from rfl]
def str (l : List UInt8) : AV := .str l
end Go.Eng.L41
