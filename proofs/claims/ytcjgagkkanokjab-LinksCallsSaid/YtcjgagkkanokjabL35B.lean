/- Law 35: bytes; slices.Clone, slices.Equal. -/
import Derived.Test.YtcjgagkkanokjabL35A
namespace Go.Eng.L35
open Go.Proofs Go.Eng
/-- What is known of calls: awake and Send. -/
class O35 extends Orc where
  only : ∀ f args h, f ≠ 5 → f ≠ 10 → toOrc.call f args h = none
variable [O35]
theorem ci {f : FuncId} {args : List AV} {h : AHeap} {K : AV → AHeap → Prop} {fn : Func} {c : Code} (hf : Try.prog.funcs[f]? = some fn) (hb : fn.body = some c) (hne : f ≠ 5 ∧ f ≠ 10)
    (hw : ∀ fr : AFrame, fr.n = args.length + (fn.ntmps - args.length) → (∀ i, i < args.length → fr.get i = args[i]?) → AW Try.prog c fr h (kfun Try.prog fn.results.toList K)) : Ca Try.prog f args h K :=
  Ca_intro hf hb hw (O35.only f args h hne.1 hne.2)
omit [O35] in
@[simp] theorem bld_nil (pl : List (Nat × Nat)) (z : List AV) : bld pl z [] = some (.agg z) := rfl
def bstep (p : Option (Nat × Nat)) (v : AV) (z : List AV) (pl : List (Nat × Nat)) (r : List (Nat × AV)) : Option AV := match p with
  | some (off, size) => if v.cells.length = size ∧ off + v.cells.length ≤ z.length then bld pl (splice z off v.cells) r else none
  | none => none
omit [O35] in
@[simp] theorem bld_cons (pl : List (Nat × Nat)) (z : List AV) (i : Nat) (v : AV) (r : List (Nat × AV)) : bld pl z ((i, v) :: r) = bstep pl[i]? v z pl r := by
  simp only [bld, afill, bstep]
  cases pl[i]? with
  | none => rfl
  | some p =>
    obtain ⟨off, size⟩ := p
    simp only []
    by_cases hc : v.cells.length = size ∧ off + v.cells.length ≤ z.length
    · rw [if_pos hc, if_pos hc]
    · rw [if_neg hc, if_neg hc]
omit [O35] in
@[simp] theorem bstep_some (off size : Nat) (v : AV) (z : List AV) (pl : List (Nat × Nat)) (r : List (Nat × AV)) : bstep (some (off, size)) v z pl r = if v.cells.length = size ∧ off + v.cells.length ≤ z.length then bld pl (splice z off v.cells) r else none := rfl

/-! ### bytes -/
abbrev byt (bs : List UInt8) : List (List AV) := bs.map fun b => [byteAV b]
/-- The cells of bytes. -/
def bc (bs : List UInt8) : List AV := bs.map byteAV
omit [O35] in
@[simp] theorem bc_len (bs : List UInt8) : (bc bs).length = bs.length := by simp [bc]
omit [O35] in
@[simp] theorem bc_one (bs : List UInt8) : (bc bs).all AV.one = true := by simp [bc]; intro a _; rfl
omit [O35] in
theorem bc_set (bs : List UInt8) (i : Nat) (c : UInt8) : (bc bs).set i (byteAV c) = bc (bs.set i c) := by simp [bc, List.map_set]
omit [O35] in
@[simp] theorem bc_get (bs : List UInt8) (i : Nat) : (bc bs)[i]? = bs[i]?.map byteAV := by simp [bc]
omit [O35] in
theorem bc_chunks (bs : List UInt8) : (bc bs).map (fun v => [v]) = byt bs := by simp [bc, Function.comp_def]
omit [O35] in
theorem byt_flat (bs : List UInt8) : (byt bs).flatten = bc bs := by rw [← bc_chunks, flatten_single]
/-- A value that reads as bytes. -/
def Bs (h : AHeap) (x : AV) (bs : List UInt8) : Prop := Sl h 1 x (byt bs)
omit [O35] in
theorem byt_len (bs : List UInt8) : ∀ a ∈ byt bs, a.length = 1 := fun a ha => by obtain ⟨b, _, rfl⟩ := List.mem_map.1 ha; rfl
omit [O35] in
theorem Bs.len {h : AHeap} {x : AV} {bs : List UInt8} (hb : Bs h x bs) : plen Try.prog 34 x = some (.int .i64 (bs.length : Int)) := by
  have := Sl.len hb sl34
  simpa using this
omit [O35] in
theorem Bs.pres {h h' : AHeap} {x : AV} {bs : List UInt8} (hb : Bs h x bs) (hp : Pres h h') : Bs h' x bs := Sl.pres hb hp
omit [O35] in
theorem Bs.src {h : AHeap} {x : AV} {bs : List UInt8} (hb : Bs h x bs) : srcCells Try.prog h 34 x 1 = some ((byt bs).length, (byt bs).flatten) := Sl.src hb sl34
omit [O35] in
theorem Bs.at {h : AHeap} {x : AV} {bs : List UInt8} (hb : Bs h x bs) (i : Nat) (hi : i < bs.length) : ∃ b o, blk x = some b ∧ pindexAddr Try.prog 34 x (.int .i64 (i : Int)) = some (.ptr b o) ∧ b < h.next ∧ atCells Try.prog 5 (h.get b) o = some (byteAV bs[i]) := by
  obtain ⟨b, o, h0, h1, h2, _, h3⟩ := Sl.at_blk hb sl34 sz5 i (by simpa using hi)
  refine ⟨b, o, h0, h1, h2, ?_⟩
  have := h3 0 5 ag5 (by omega)
  simpa using this
omit [O35] in
theorem Sl.shape {h : AHeap} {n : Nat} {x : AV} {l : List (List AV)} (hs : Sl h n x l) : (x = .nilsl ∧ l = []) ∨ ∃ b o z c, x = .sl b o z l.length c := by
  rcases hs.2 with h2 | ⟨b, o, z, c, ty, cs, wr, h2, _⟩ | ⟨h2, b, o, z, c, _, h3, _⟩
  · exact .inl h2
  · exact .inr ⟨b, o, z, c, h2⟩
  · exact .inr ⟨b, o, z, c, by rw [h2]; exact h3⟩
omit [O35] in
theorem Sl.one {h : AHeap} {n : Nat} {x : AV} {l : List (List AV)} (hs : Sl h n x l) : x.cells = [x] ∧ AV.one x = true ∧ allOne x = true := by
  rcases Sl.shape hs with ⟨rfl, _⟩ | ⟨b, o, z, c, rfl⟩ <;> simp
omit [O35] in
theorem wrap_in {n : Int} (h : -9223372036854775808 ≤ n ∧ n < 9223372036854775808) : IntKind.i64.wrap n = n := IntWalk.i64_in _ (by omega)
omit [O35] in
theorem wrap_nat (i : Nat) (hi : i < 9223372036854775807) : IntKind.i64.wrap ((i : Int) + 1) = ((i + 1 : Nat) : Int) := by rw [IntWalk.i64_in _ (by omega)]; omega
omit [O35] in
theorem appB {h : AHeap} {x y : AV} {l k : List UInt8} (hg : Gf h 5 1 x (byt l)) (hy : Bs h y k) (hlen : l.length + k.length ≤ 100000000) :
    ∃ x' h', aappend Try.prog h [34, 34] [x, y] = some (x', h') ∧ Gf h' 5 1 x' (byt (l ++ k)) ∧ Grown h x h' x' := by
  obtain ⟨x', h', h1, h2, h3⟩ := hg.append sl34 sz5 by5 z5 rfl (by omega) (Bs.src hy) (byt_len k) (by simp; omega) (by simp; omega)
  exact ⟨x', h', h1, by simpa using h2, h3⟩
omit [O35] in
@[simp] theorem pbs34_0 : pbs Try.prog 34 0 [] = some (5, [], .sl 0 0) := by kernel_rfl
omit [O35] in
theorem Gf.empty {h : AHeap} {e n : Nat} : Gf (h.new (.cells e [] (some 0))) e n (.sl h.next 0 0 0 (.at_ 0)) [] := ⟨by simp, .inr (.inl ⟨rfl, h.next, by simp, rfl, by simp⟩)⟩
omit [O35] in
theorem Bs.one {h : AHeap} {x : AV} {bs : List UInt8} (hb : Bs h x bs) : x.cells = [x] ∧ AV.one x = true ∧ allOne x = true := Sl.one hb
/-- What is fresh. -/
def Fresh (h : AHeap) (x : AV) : Prop := ∀ b, blk x = some b → h.next ≤ b
theorem clone_sp (h : AHeap) (x : AV) (bs : List UInt8) (hx : Bs h x bs) (hl : bs.length ≤ 100000000) : Ca Try.prog 16 [x] h fun r h' => Gf h' 5 1 r (byt bs) ∧ Pres h h' ∧ Fresh h r := by
  refine ci Try.func16 rfl (by decide) ?_
  intro fr hn hg
  replace hn : fr.n = 8 := hn
  have h0 : fr.get 0 = some x := hg 0 (by simp)
  clear hg
  show AW _ _ _ _ _
  rcases Sl.shape hx with ⟨rfl, hb⟩ | ⟨b, o, z, c, rfl⟩
  · have : bs = [] := by simpa using hb
    subst this
    simp [hn, h0, kseq_normal, bin2_eql_nilsl sl34]
    exact ⟨Gf.nil _ _ _, Pres.refl h, fun b hb => by simp [blk] at hb⟩
  · simp [hn, h0, kseq_normal, bin2_eql_sl sl34]
    have hp : Pres h (h.new (.cells 5 [] (some 0))) := (Pres.refl h).new _
    obtain ⟨x', h', h1, h2, h3⟩ := appB (l := []) (k := bs) (h := h.new (.cells 5 [] (some 0))) (Gf.empty (n := 1)) (hx.pres hp) (by simpa using hl)
    simp at h1
    rw [h1]
    simp [hn, kseq_normal]
    exact ⟨by simpa using h2, ⟨Nat.le_trans (by simp) h3.next, fun c hc => (h3.keep c (by simp; omega) (by simp [blk]; omega)).trans (hp.2 c hc)⟩, fun b hb => by rcases h3.new b hb with e | e; simp [blk] at e; omega; simp at e; omega⟩
end Go.Eng.L35
/- Law 35: numbers of bytes, and bytes of numbers; digests. -/
namespace Go.Eng.L35
open Go.Proofs Go.Eng
def u64or (a b : Int) : Int := IntKind.u64.wrap ((BitVec.ofInt 64 a ||| BitVec.ofInt 64 b).toNat : Int)
def u64xor (a b : Int) : Int := IntKind.u64.wrap ((BitVec.ofInt 64 a ^^^ BitVec.ofInt 64 b).toNat : Int)
def u64shl8 (a : Int) : Int := IntKind.u64.wrap (a * 256)
theorem or64 (P : Program) (t : TypeId) (x y : Operand) (a b : Int) : bin2 P .or t x y (some (.int .u64 a)) (some (.int .u64 b)) = some (.int .u64 (u64or a b)) := by simp only [bin2, okEq, if_true, pbin, pint]; rfl
theorem xor64 (P : Program) (t : TypeId) (x y : Operand) (a b : Int) : bin2 P .xor t x y (some (.int .u64 a)) (some (.int .u64 b)) = some (.int .u64 (u64xor a b)) := by simp only [bin2, okEq, if_true, pbin, pint]; rfl
theorem shl64 (P : Program) (t : TypeId) (x y : Operand) (k : IntKind) (a : Int) : bin2 P .shl t x y (some (.int .u64 a)) (some (.int k 8)) = some (.int .u64 (u64shl8 a)) := by rw [bin2_shl t x y (by omega)]; rfl
theorem shr64 (P : Program) (t : TypeId) (x y : Operand) (k : IntKind) (a : Int) (n : Nat) (hn : n ≤ 64) : bin2 P .shr t x y (some (.int .u64 a)) (some (.int k (n : Int))) = some (.int .u64 (a / 2 ^ n)) := by
  rw [bin2_shr t x y (by omega), Int.toNat_natCast]
  have : min n (IntKind.bits .u64) = n := by simp [IntKind.bits]; omega
  rw [this, Int.fdiv_eq_ediv_of_nonneg _ (by exact Int.le_of_lt (Int.pow_pos (by omega)))]
attribute [simp] or64 xor64 shl64
def toB (y : Int) : UInt8 := UInt8.ofNat (y % 256).toNat
theorem u8wrap (y : Int) : AV.int .u8 (IntKind.u8.wrap y) = byteAV (toB y) := by
  unfold byteAV toB
  congr 1
  have h1 : 0 ≤ y % 256 := Int.emod_nonneg _ (by omega)
  have h2 : y % 256 < 256 := Int.emod_lt_of_pos _ (by omega)
  have : (UInt8.ofNat (y % 256).toNat).toNat = (y % 256).toNat := by
    rw [UInt8.toNat_ofNat']; omega
  rw [this, Int.toNat_of_nonneg h1]
  simp [IntKind.wrap, IntKind.signed, IntKind.bits]
/-- A number of 64 bits from bytes. -/
def get1 (x : Int) (c : UInt8) : Int := u64or (u64shl8 x) (IntKind.u64.wrap (c.toNat : Int))
def getN (bs : List UInt8) : Int := bs.foldl get1 0
def dig1 (x : Int) (c : UInt8) : Int := IntKind.u64.wrap (u64xor x (IntKind.u64.wrap (c.toNat : Int)) * 1099511628211)
def digN (bs : List UInt8) : Int := bs.foldl dig1 14695981039346656037
theorem foldl_take {α β : Type} (f : β → α → β) (z : β) (l : List α) {i : Nat} (hi : i < l.length) : (l.take (i + 1)).foldl f z = f ((l.take i).foldl f z) l[i] := by
  rw [List.take_add_one, List.foldl_append, List.getElem?_eq_getElem hi]; rfl
variable [O35]
theorem rget_sp (h : AHeap) (x : AV) (bs : List UInt8) (hx : Bs h x bs) (hl : bs.length ≤ 100000000) : Ca Try.prog 57 [x] h fun r h' => r = .int .u64 (getN bs) ∧ h' = h := by
  refine ci Try.func57 rfl (by decide) ?_
  intro fr hn hg
  replace hn : fr.n = 20 := hn
  have h0 : fr.get 0 = some x := hg 0 (by simp)
  clear hg
  show AW _ _ _ _ _
  simp [hn, h0, kseq_normal]
  refine AW_loop_fr (fun k fr' h' => ∃ i, k = bs.length - i ∧ i ≤ bs.length ∧ fr'.get 3 = some (.int .u64 ((bs.take i).foldl get1 0)) ∧ fr'.get 4 = some (.int .i64 (i : Nat)) ∧ h' = h) bs.length
    ⟨0, by simp, by omega, by simp, by simp, rfl⟩ ?_
  rintro J hJ k fr' h' ⟨i, rfl, hi, h3, h4, rfl⟩ hfr
  have hn' : fr'.n = 20 := hfr.1.trans (by simp [hn])
  have h0' : fr'.get 0 = some x := (hfr.2 0 (by kernel_rfl)).trans (by simp [h0])
  clear hfr
  simp [hn', h0', h4, hx.len, kseq_normal]
  refine Br.mk (fun hb => ?_) (fun hb => ?_)
  · have hi : i < bs.length := by rw [ilt_true] at hb; omega
    obtain ⟨b, o, _, h1, h2, h3'⟩ := hx.at i hi
    simp [hn', h0', h3, h4, h1, h3', byteAV, kseq_normal]
    rw [kloop_normal]
    refine ⟨bs.length - (i + 1), by omega, hJ _ _ _ ⟨i + 1, rfl, by omega, ?_, ?_, rfl⟩⟩
    · simp; rw [foldl_take _ _ _ hi]; rfl
    · simp [wrap_nat i (by omega)]
  · have : i = bs.length := by rw [ilt_false] at hb; omega
    subst this
    simp [hn', h3, kseq_normal, getN]
theorem rdig_sp (h : AHeap) (x : AV) (bs : List UInt8) (hx : Bs h x bs) (hl : bs.length ≤ 100000000) : Ca Try.prog 58 [x] h fun r h' => r = .int .u64 (digN bs) ∧ h' = h := by
  refine ci Try.func58 rfl (by decide) ?_
  intro fr hn hg
  replace hn : fr.n = 20 := hn
  have h0 : fr.get 0 = some x := hg 0 (by simp)
  clear hg
  show AW _ _ _ _ _
  simp [hn, h0, kseq_normal]
  refine AW_loop_fr (fun k fr' h' => ∃ i, k = bs.length - i ∧ i ≤ bs.length ∧ fr'.get 3 = some (.int .u64 ((bs.take i).foldl dig1 14695981039346656037)) ∧ fr'.get 4 = some (.int .i64 (i : Nat)) ∧ h' = h) bs.length
    ⟨0, by simp, by omega, by simp, by simp, rfl⟩ ?_
  rintro J hJ k fr' h' ⟨i, rfl, hi, h3, h4, rfl⟩ hfr
  have hn' : fr'.n = 20 := hfr.1.trans (by simp [hn])
  have h0' : fr'.get 0 = some x := (hfr.2 0 (by kernel_rfl)).trans (by simp [h0])
  clear hfr
  simp [hn', h0', h4, hx.len, kseq_normal]
  refine Br.mk (fun hb => ?_) (fun hb => ?_)
  · have hi : i < bs.length := by rw [ilt_true] at hb; omega
    obtain ⟨b, o, _, h1, h2, h3'⟩ := hx.at i hi
    simp [hn', h0', h3, h4, h1, h3', byteAV, kseq_normal]
    rw [kloop_normal]
    refine ⟨bs.length - (i + 1), by omega, hJ _ _ _ ⟨i + 1, rfl, by omega, ?_, ?_, rfl⟩⟩
    · simp; rw [foldl_take _ _ _ hi]; rfl
    · simp [wrap_nat i (by omega)]
  · have : i = bs.length := by rw [ilt_false] at hb; omega
    subst this
    simp [hn', h3, kseq_normal, digN]
/-- What the program's digest takes of a frame. -/
def digSel (bs : List UInt8) : List UInt8 := bs.take 16 ++ bs.drop 24
theorem pdig_sp (h : AHeap) (x : AV) (bs : List UInt8) (hx : Bs h x bs) (hl : bs.length ≤ 100000000) (h24 : 24 ≤ bs.length) : Ca Try.prog 50 [x] h fun r h' => r = .int .u64 (digN (digSel bs)) ∧ h' = h := by
  refine ci Try.func50 rfl (by decide) ?_
  intro fr hn hg
  replace hn : fr.n = 26 := hn
  have h0 : fr.get 0 = some x := hg 0 (by simp)
  clear hg
  show AW _ _ _ _ _
  simp [hn, h0, kseq_normal, hx.len]
  refine AW_loop_fr (fun k fr' h' => ∃ i, k = bs.length - i ∧ i ≤ bs.length ∧ fr'.get 3 = some (.int .u64 (digN ((bs.take i).take 16 ++ (bs.take i).drop 24))) ∧ fr'.get 8 = some (.int .i64 (i : Nat)) ∧ h' = h) bs.length
    ⟨0, by simp, by omega, by simp [digN], by simp, rfl⟩ ?_
  rintro J hJ k fr' h' ⟨i, rfl, hi, h3, h4, rfl⟩ hfr
  have hn' : fr'.n = 26 := hfr.1.trans (by simp [hn])
  have h6' : fr'.get 6 = some x := (hfr.2 6 (by kernel_rfl)).trans (by simp [h0])
  have h7' : fr'.get 7 = some (.int .i64 (bs.length : Int)) := (hfr.2 7 (by kernel_rfl)).trans (by simp [h0])
  clear hfr
  simp [hn', h6', h7', h4, kseq_normal]
  refine Br.mk (fun hb => ?_) (fun hb => ?_)
  · have hi : i < bs.length := by rw [ilt_true] at hb; omega
    obtain ⟨b, o, _, h1, h2, h3'⟩ := hx.at i hi
    simp [hn', h6', h7', h3, h4, h1, h3', byteAV, kseq_normal]
    have step1 : (i < 16 ∨ 24 ≤ i) → digN ((bs.take (i + 1)).take 16 ++ (bs.take (i + 1)).drop 24) = dig1 (digN ((bs.take i).take 16 ++ (bs.take i).drop 24)) bs[i] := by
      intro hor
      have e1 : bs.take (i + 1) = bs.take i ++ [bs[i]] := by rw [List.take_add_one, List.getElem?_eq_getElem hi]; rfl
      have e2 : (bs.take i).length = i := by rw [List.length_take]; omega
      rw [e1]
      unfold digN
      rcases hor with hor | hor
      · rw [List.take_of_length_le (l := bs.take i ++ [bs[i]]) (by rw [List.length_append, e2, List.length_singleton]; omega), List.drop_of_length_le (l := bs.take i ++ [bs[i]]) (by rw [List.length_append, e2, List.length_singleton]; omega), List.take_of_length_le (l := bs.take i) (by omega), List.drop_of_length_le (l := bs.take i) (by omega), List.append_nil, List.append_nil, List.foldl_append]
        rfl
      · rw [List.take_append_of_le_length (by omega), List.drop_append_of_le_length (by omega), ← List.append_assoc, List.foldl_append]
        rfl
    have step2 : ¬ (i < 16 ∨ 24 ≤ i) → digN ((bs.take (i + 1)).take 16 ++ (bs.take (i + 1)).drop 24) = digN ((bs.take i).take 16 ++ (bs.take i).drop 24) := by
      intro hor
      have e1 : bs.take (i + 1) = bs.take i ++ [bs[i]] := by rw [List.take_add_one, List.getElem?_eq_getElem hi]; rfl
      have e2 : (bs.take i).length = i := by rw [List.length_take]; omega
      rw [e1, List.take_append_of_le_length (by omega), List.drop_of_length_le (l := bs.take i ++ [bs[i]]) (by rw [List.length_append, e2, List.length_singleton]; omega), List.drop_of_length_le (l := bs.take i) (by omega)]
    have done : ∀ (fr2 : AFrame) (v : Int), fr2.get 3 = some (.int .u64 v) → fr2.get 8 = some (.int .i64 ((i + 1 : Nat) : Int)) → v = digN ((bs.take (i + 1)).take 16 ++ (bs.take (i + 1)).drop 24) → ∃ j, j < bs.length - i ∧ J j fr2 h' := fun fr2 v a1 a2 a3 =>
      ⟨bs.length - (i + 1), by omega, hJ _ _ _ ⟨i + 1, rfl, by omega, by rw [a1, a3], a2, rfl⟩⟩
    refine Br.mk (fun hc => ?_) (fun hc => ?_)
    · simp [hc, hn', h3, h4, kseq_normal]
      rw [kloop_normal]
      refine done _ _ (by simp; rfl) (by simp [wrap_nat i (by omega)]) ?_
      rw [step1 (.inl (by rw [ilt_true] at hc; omega))]; rfl
    · simp [hc, hn', h3, h4, kseq_normal]
      refine Br.mk (fun hd => ?_) (fun hd => ?_)
      · simp [hc, hd, hn', h3, h4, kseq_normal]
        rw [kloop_normal]
        refine done _ _ (by simp; exact h3) (by simp [wrap_nat i (by omega)]) ?_
        rw [step2 (by rw [ilt_false] at hc; rw [ilt_true] at hd; omega)]
      · simp [hc, hd, hn', h3, h4, kseq_normal]
        rw [kloop_normal]
        refine done _ _ (by simp; rfl) (by simp [wrap_nat i (by omega)]) ?_
        rw [step1 (.inr (by rw [ilt_false] at hd; omega))]; rfl
  · have : i = bs.length := by rw [ilt_false] at hb; omega
    subst this
    simp [hn', h3, kseq_normal, digSel]
end Go.Eng.L35
