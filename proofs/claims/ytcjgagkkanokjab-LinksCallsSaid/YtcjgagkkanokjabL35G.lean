/- Law 35: frames into bytes: the reference. -/
import Derived.Test.YtcjgagkkanokjabL35F
namespace Go.Eng.L35
open Go.Proofs Go.Eng
variable [O35]
omit [O35] in
theorem pbs34_2b (a c : UInt8) : pbs Try.prog 34 2 [(0, byteAV a), (1, byteAV c)] = some (5, bc [a, c], .sl 2 2) := by kernel_rfl
omit [O35] in
/-- Bytes behind a slice that is just full. -/
theorem appG {h : AHeap} {b : Nat} {y : AV} {l k : List UInt8} (hb : b < h.next) (hc : h.get b = .cells 5 (bc l) (some 0)) (hy : Bs h y k) (hlen : l.length + k.length ≤ 100000000) (hk0 : k ≠ []) :
    ∃ x' h', aappend Try.prog h [34, 34] [.sl b 0 0 l.length (.at_ l.length), y] = some (x', h') ∧ Gf h' 5 1 x' (byt (l ++ k)) ∧ Pres h h' ∧ Fresh h x' := by
  have hk := Bs.src hy
  rw [byt_flat, List.length_map] at hk
  have hk0 : k.length ≠ 0 := fun e => hk0 (List.length_eq_zero_iff.1 e)
  refine ⟨.sl h.next 0 0 (l.length + k.length) (.op 1 (l.length + k.length)), h.new (.cells 5 (bc (l ++ k)) (some 0)), ?_, ⟨byt_len _, .inr (.inr ⟨h.next, l.length + k.length, by simp, by simp, by rw [byt_flat]; simp⟩)⟩, (Pres.refl h).new _, fun c hc => by simp only [blk, Option.some.injEq] at hc; omega⟩
  simp only [aappend, sl34, sz5, by5, z5, hk, hc, agrow]
  rw [if_neg hk0, if_neg (by simp), if_neg (by omega), if_pos (by simp), if_pos ⟨by omega, by omega, rfl, by omega⟩]
  simp [List.take_of_length_le, bc]
omit [O35] in
theorem _root_.Go.Eng.Gf.bs {h : AHeap} {x : AV} {bs : List UInt8} (hg : Gf h 5 1 x (byt bs)) : Bs h x bs := hg.sl
omit [O35] in
/-- An append onto what is new since h0. -/
theorem appF {h0 h : AHeap} {x y : AV} {l k : List UInt8} (hp : Pres h0 h) (hf : Fresh h0 x) (hg : Gf h 5 1 x (byt l)) (hy : Bs h y k) (hlen : l.length + k.length ≤ 100000000) :
    ∃ x' h', aappend Try.prog h [34, 34] [x, y] = some (x', h') ∧ Gf h' 5 1 x' (byt (l ++ k)) ∧ Pres h0 h' ∧ Fresh h0 x' := by
  obtain ⟨x', h', h1, h2, h3⟩ := appB hg hy hlen
  obtain ⟨h4, h5⟩ := Pres.grown hp hf h3
  exact ⟨x', h', h1, h2, h4, h5⟩
omit [O35] in
theorem Fresh.mono {h0 h : AHeap} {x : AV} (hf : Fresh h x) (hp : Pres h0 h) : Fresh h0 x := fun b hb => Nat.le_trans hp.1 (hf b hb)
omit [O35] in
theorem flag_av (l : Bool) : AV.int .u8 (if l then 1 else 0) = byteAV (flagB l) := by cases l <;> rfl
theorem renc_sp (h : AHeap) (f : Fm) (d : AV) (hd : Bs h d f.data) (hl : f.data.length ≤ 1000000) :
    Ca Try.prog 44 [.agg (f.cells d)] h fun r h' => ∃ y, r = .tuple [y, i64 (encE f)] ∧ Bs h' y (encO f) ∧ Pres h h' ∧ Fresh h y := by
  refine ci Try.func44 rfl (by decide) ?_
  intro fr hn hg
  replace hn : fr.n = 83 := hn
  have h0 : fr.get 0 = some (.agg (f.cells d)) := hg 0 (by simp)
  clear hg
  show AW _ _ _ _ _
  obtain ⟨hd1, hd2, hd3⟩ := hd.one
  have hp1 : Pres h (h.new (.cells 92 (f.cells d) (some 0))) := (Pres.refl h).new _
  have hb1 : (h.new (.cells 92 (f.cells d) (some 0))).get h.next = .cells 92 (f.cells d) (some 0) := by simp
  have hn1 : (h.new (.cells 92 (f.cells d) (some 0))).next = h.next + 1 := by simp
  rw [AW_seq]
  simp [hn, h0, hd2]
  rw [kseq_normal]
  have hd' := hd.pres hp1
  generalize (h.new (.cells 92 (f.cells d) (some 0))) = h1 at *
  have hlen := hd'.len
  have bad : ∀ e : Int, e ≠ 0 → encE f = e → ∃ y, AV.nilsl = y ∧ Bs h1 y (encO f) ∧ Pres h h1 ∧ Fresh h y := fun e h1 h2 => ⟨.nilsl, rfl, by rw [encO_no (by omega)]; exact Sl.nil _ _, hp1, fun b hb => by simp [blk] at hb⟩
  have ret : ∀ fr' : AFrame, fr'.get 2 = some .nilsl → fr'.get 3 = some (i64 (encE f)) → encE f ≠ 0 → kfun Try.prog [ResultVar.tmp 2, ResultVar.tmp 3] (fun r h' => ∃ y, r = .tuple [y, i64 (encE f)] ∧ Bs h' y (encO f) ∧ Pres h h' ∧ Fresh h y) .ret fr' h1 := fun fr' k2 k3 he => by
    rw [kfun_ret]
    simp [k2, k3]
    exact ⟨by rw [encO_no he]; exact Sl.nil _ _, hp1, fun b hb => by simp [blk] at hb⟩
  -- the kind
  rw [AW_seq]
  refine AW_cut (Q' := fun e fr' h' => h' = h1 ∧ ((e = .ret ∧ encE f ≠ 0 ∧ fr'.get 2 = some .nilsl ∧ fr'.get 3 = some (i64 (encE f))) ∨ (e = .normal ∧ (!(ieq f.kind 1) && !(ieq f.kind 2)) = false ∧ fr'.n = 83 ∧ fr'.get 1 = some (.ptr h.next 0)))) ?_ ?_
  · simp [hn, hb1, kseq_normal]
    repeat' (first | refine Br.mk (fun hb => ?_) (fun hb => ?_) | simp [*, encE, kseq_normal])
  rintro e fr2 h2 ⟨rfl, ⟨rfl, he, k2, k3⟩ | ⟨rfl, hc1, hn2, g1⟩⟩
  · rw [kseq_ret]; exact ret fr2 k2 k3 he
  rw [kseq_normal, AW_seq]
  -- acknowledgments
  refine AW_cut (Q' := fun e fr' h' => h' = h2 ∧ ((e = .ret ∧ encE f ≠ 0 ∧ fr'.get 2 = some .nilsl ∧ fr'.get 3 = some (i64 (encE f))) ∨ (e = .normal ∧ (ieq f.kind 2 && (f.last || ilt 0 (f.data.length : Int))) = false ∧ fr'.n = 83 ∧ fr'.get 1 = some (.ptr h.next 0)))) ?_ ?_
  · have e0 : (ieq f.kind 2 && (f.last || ilt 0 (f.data.length : Int))) = true → encE f = 14 := fun hc2 => by unfold encE; rw [if_neg (by simp [hc1]), if_pos hc2]
    simp [hn2, g1, hb1, kseq_normal]
    repeat' (first | refine Br.mk (fun hb => ?_) (fun hb => ?_) | simp [*, kseq_normal] at * | simp [*, kseq_normal])
  clear hn2 g1
  rintro e fr3 h3 ⟨rfl, ⟨rfl, he, k2, k3⟩ | ⟨rfl, hc2, hn2, g1⟩⟩
  · rw [kseq_ret]; exact ret fr3 k2 k3 he
  rw [kseq_normal, AW_seq]
  -- ranges
  refine AW_cut (Q' := fun e fr' h' => h' = h3 ∧ ((e = .ret ∧ encE f ≠ 0 ∧ fr'.get 2 = some .nilsl ∧ fr'.get 3 = some (i64 (encE f))) ∨ (e = .normal ∧ (ilt f.msg 1 || ilt f.frag 0 || ilt 2147483647 f.frag) = false ∧ fr'.n = 83 ∧ fr'.get 1 = some (.ptr h.next 0)))) ?_ ?_
  · have e0 : (ilt f.msg 1 || ilt f.frag 0 || ilt 2147483647 f.frag) = true → encE f = 34 := fun hc3 => by unfold encE; rw [if_neg (by simp [hc1]), if_neg (by simp [hc2]), if_pos hc3]
    simp [hn2, g1, hb1, kseq_normal]
    repeat' (first | refine Br.mk (fun hb => ?_) (fun hb => ?_) | simp [*, kseq_normal] at * | simp [*, kseq_normal])
  clear hn2 g1
  rintro e fr4 h4 ⟨rfl, ⟨rfl, he, k2, k3⟩ | ⟨rfl, hc3, hn2, g1⟩⟩
  · rw [kseq_ret]; exact ret fr4 k2 k3 he
  rw [kseq_normal, AW_seq]
  -- the size
  refine AW_cut (Q' := fun e fr' h' => h' = h4 ∧ ((e = .ret ∧ encE f ≠ 0 ∧ fr'.get 2 = some .nilsl ∧ fr'.get 3 = some (i64 (encE f))) ∨ (e = .normal ∧ encE f = 0 ∧ fr'.n = 83 ∧ fr'.get 1 = some (.ptr h.next 0)))) ?_ ?_
  · have e0 : encE f = if ilt 4096 (f.data.length : Int) then 20 else 0 := by unfold encE; rw [if_neg (by simp [hc1]), if_neg (by simp [hc2]), if_neg (by simp [hc3])]
    simp [hn2, g1, hb1, hlen, kseq_normal]
    repeat' (first | refine Br.mk (fun hb => ?_) (fun hb => ?_) | simp [*, kseq_normal])
  clear hn2 g1
  rintro e fr5 h5 ⟨rfl, ⟨rfl, he, k2, k3⟩ | ⟨rfl, he, hn2, g1⟩⟩
  · rw [kseq_ret]; exact ret fr5 k2 k3 he
  clear ret hc1 hc2 hc3 h0 hn fr2 fr3 fr4
  rw [kseq_normal, AW_seq]
  simp [hn2]
  rw [kseq_normal, AW_seq]
  refine AW_cut (Q' := fun e fr' h' => e = .normal ∧ h' = h5 ∧ fr'.n = 83 ∧ fr'.get 1 = some (.ptr h.next 0) ∧ fr'.get 4 = some (byteAV (flagB f.last))) ?_ ?_
  · simp [hn2, g1, hb1, kseq_normal]
    refine Br.mk (fun hb => ?_) (fun hb => ?_)
    · simp [hb, hn2, g1, flagB, byteAV]
    · simp [hb, hn2, g1, flagB, byteAV]
  clear hn2 g1
  rintro e fr6 h6 ⟨rfl, rfl, hn2, g1, g4⟩
  rw [kseq_normal, AW_seq]
  have hlt : h.next < h6.next := by omega
  have base : ∀ h', Pres h6 h' → h'.get h.next = .cells 92 (f.cells d) (some 0) ∧ Bs h' d f.data ∧ Pres h h' ∧ h.next < h'.next := fun h' hp => ⟨(hp.2 _ hlt).trans hb1, hd'.pres hp, hp1.trans hp, by have := hp.1; omega⟩
  -- the head: kind, flags, length
  refine AW_region_p [0, 1, 2, 3, 5, 6, 7, 8, 9, 4, 10, 11] [.plain, .load [0], .plain, .plain, .plain, .load [0], .plain, .plain, .eff [1], .plain, .eff [], .plain] (by kernel_rfl) (by kernel_rfl) (by kernel_rfl) (by kernel_rfl) (by kernel_rfl) ?_
  simp [permL, nthO, pos, rnO, hn2, g1, g4, hb1, hlen, u8wrap]
  refine (rput_sp h6 (IntKind.u64.wrap (f.data.length : Int)) 2 (by omega)).mono ?_
  rintro y1 h7 ⟨hy1, hp7, hf1⟩
  obtain ⟨b1, b2, b3, b4⟩ := base h7 hp7
  have hp7' : Pres h7 (h7.new (.cells 5 (bc [toB f.kind, flagB f.last]) (some 0))) := (Pres.refl h7).new _
  obtain ⟨x1, h8, ha1, hg1, hp8, hfx1⟩ := appG (h := h7.new (.cells 5 (bc [toB f.kind, flagB f.last]) (some 0))) (b := h7.next) (l := [toB f.kind, flagB f.last]) (by simp) (by simp) (Bs.pres hy1.bs hp7') (by simp [beB_len]) (by intro e; have := congrArg List.length e; simp [beB_len] at this)
  simp [hn2, g1, g4, b1, pbs34_2b]
  simp at ha1
  rw [ha1]
  simp [hn2]
  have hp8' : Pres h6 h8 := (hp7.trans hp7').trans hp8
  have hfx1' : Fresh h6 x1 := hfx1.mono (hp7.trans hp7')
  clear hy1 hp7 hf1 b1 b2 b3 b4 hp7' hp8 hfx1 ha1
  generalize hA1 : [toB f.kind, flagB f.last] ++ beB 2 (IntKind.u64.wrap (f.data.length : Int)) = A1 at *
  have hA1l : A1.length = 4 := by rw [← hA1]; simp [beB_len]
  rw [kseq_normal, AW_seq]
  -- the head: message, fragment
  obtain ⟨b1, b2, b3, b4⟩ := base h8 hp8'
  refine AW_region_d [.plain, .plain, .load [0], .plain, .eff [], .eff [], .plain, .load [0, 5, 6], .plain, .eff [], .eff [], .plain] (by kernel_rfl) (by kernel_rfl) ?_
  simp [hn2, g1, b1]
  refine (rput_sp h8 (IntKind.u64.wrap f.msg) 8 (by omega)).mono ?_
  rintro y2 h9 ⟨hy2, hp9, hf2⟩
  have hp9' := hp8'.trans hp9
  obtain ⟨c1, c2, c3, c4⟩ := base h9 hp9'
  obtain ⟨x2, h10, ha2, hg2, hp10, hfx2⟩ := appF hp9' hfx1' (hg1.pres hp9) hy2.bs (by simp [beB_len]; omega)
  obtain ⟨d1, d2, d3, d4⟩ := base h10 hp10
  simp [hn2, g1, c1]
  rw [ha2]
  simp [hn2, g1, b1, c1, d1]
  refine (rput_sp h10 (IntKind.u64.wrap f.frag) 4 (by omega)).mono ?_
  rintro y3 h11 ⟨hy3, hp11, hf3⟩
  have hp11' := hp10.trans hp11
  obtain ⟨x3, h12, ha3, hg3, hp12, hfx3⟩ := appF hp11' hfx2 (hg2.pres hp11) hy3.bs (by simp [beB_len]; omega)
  simp [hn2]
  rw [ha3]
  simp [hn2]
  have hA : A1 ++ beB 8 (IntKind.u64.wrap f.msg) ++ beB 4 (IntKind.u64.wrap f.frag) = head16 f := by rw [← hA1]; rfl
  rw [hA] at hg3
  clear hy2 hp9 hf2 hp9' c1 c2 c3 c4 ha2 hg2 hp10 hfx2 d1 d2 d3 d4 hy3 hp11 hf3 hp11' ha3 hA hA1l hA1 hg1 hp8' hfx1' b1 b2 b3 b4
  rw [kseq_normal, AW_seq]
  -- the digest
  obtain ⟨b1, b2, b3, b4⟩ := base h12 hp12
  refine AW_region_d [.plain, .plain, .eff [], .plain, .load [0, 3], .eff [], .eff [], .plain] (by kernel_rfl) (by kernel_rfl) ?_
  have hp13 : Pres h12 (h12.new (.cells 5 [] (some 0))) := (Pres.refl h12).new _
  obtain ⟨x4, h14, ha4, hg4, hp14, hfx4⟩ := appF (h0 := h12) (h := h12.new (.cells 5 [] (some 0))) (x := .sl h12.next 0 0 0 (.at_ 0)) (l := []) hp13 (fun c hc => by simp [blk] at hc; omega) Gf.empty (hg3.pres hp13).bs (by simp [head16_len])
  simp [hn2, g1, b1]
  rw [ha4]
  obtain ⟨c1, c2, c3, c4⟩ := base h14 (hp12.trans hp14)
  obtain ⟨x5, h15, ha5, hg5, hp15, hfx5⟩ := appF hp14 hfx4 hg4 c2 (by simp [head16_len]; omega)
  simp [hn2, g1, b1, c1]
  rw [ha5]
  simp [hn2]
  refine (rdig_sp h15 x5 _ hg5.bs (by simp [head16_len]; omega)).mono ?_
  rintro r h16 ⟨rfl, rfl⟩
  simp [hn2]
  have hp16 := hp12.trans hp15
  have hg6 := hg3.pres hp15
  rw [kseq_normal, AW_seq]
  -- all of it
  clear hp13 ha4 hg4 hp14 hfx4 c1 c2 c3 c4 ha5 hg5 hp15 hfx5 b1 b2 b3 b4 hg3
  obtain ⟨b1, b2, b3, b4⟩ := base h16 hp16
  refine AW_region_d [.plain, .plain, .eff [], .eff [], .plain, .load [0, 3, 4], .eff [], .plain, .plain] (by kernel_rfl) (by kernel_rfl) ?_
  simp [hn2, g1, b1]
  refine (rput_sp h16 (digN (head16 f ++ f.data)) 8 (by omega)).mono ?_
  rintro y3 h17 ⟨hy3, hp17, hf3⟩
  obtain ⟨c1, c2, c3, c4⟩ := base h17 (hp16.trans hp17)
  obtain ⟨x6, h18, ha6, hg7, hp18, hfx6⟩ := appF (hp16.trans hp17) hfx3 (hg6.pres hp17) hy3.bs (by simp [beB_len, head16_len])
  obtain ⟨d1, d2, d3, d4⟩ := base h18 hp18
  simp [hn2]
  rw [ha6]
  simp [hn2, g1, b1, c1, d1]
  obtain ⟨x7, h19, ha7, hg8, hp19, hfx7⟩ := appF hp18 hfx6 hg7 d2 (by simp [beB_len, head16_len]; omega)
  rw [ha7]
  simp [hn2, kseq_normal]
  rw [encO_ok he]
  exact ⟨x7, ⟨rfl, he.symm⟩, hg8.bs, hp1.trans hp19, hfx7.mono hp1⟩
end Go.Eng.L35
/- Law 35: bytes into frames: the program. -/
namespace Go.Eng.L35
open Go.Proofs Go.Eng
def by0 (bs : List UInt8) : Int := ((bs[0]?).getD 0).toNat
def by1 (bs : List UInt8) : Int := ((bs[1]?).getD 0).toNat
/-- A field of a head. -/
def fld (bs : List UInt8) (a n : Nat) : Int := getN ((bs.drop a).take n)
theorem fld_take {bs : List UInt8} {a n : Nat} (h : a + n ≤ 24) : getN (((bs.take 24).drop a).take n) = fld bs a n := by
  unfold fld
  rw [List.drop_take, List.take_take, Nat.min_eq_left (by omega)]
def decFm (bs : List UInt8) : Fm := ⟨IntKind.i64.wrap (by0 bs), ieq (by1 bs) 1, IntKind.i64.wrap (fld bs 4 8), IntKind.i64.wrap (fld bs 12 4), bs.drop 24⟩
/-- What is wrong with the form, as the program looks at it. -/
def fmtP (bs : List UInt8) : Bool :=
  let f := decFm bs
  !(ieq f.kind 1 || (ieq f.kind 2 && ieq (by1 bs) 0 && ieq (f.data.length : Int) 0)) || ilt 1 (by1 bs) || !(ieq (IntKind.i64.wrap (fld bs 2 2)) (f.data.length : Int)) || ilt f.msg 1 || ilt 2147483647 f.frag
def decE (bs : List UInt8) : Int :=
  if ilt (bs.length : Int) 24 || ilt 4120 (bs.length : Int) then 12 else
  if fmtP bs then 12 else
  if !(ieq (fld bs 16 8) (digN (digSel bs))) then 6 else 0
def decO (bs : List UInt8) : Fm := if decE bs = 0 then decFm bs else ⟨0, false, 0, 0, []⟩
theorem decO_ok {bs : List UInt8} (h : decE bs = 0) : decO bs = decFm bs := by simp [decO, h]
theorem decO_no {bs : List UInt8} (h : decE bs ≠ 0) : decO bs = ⟨0, false, 0, 0, []⟩ := by simp [decO, h]
variable [O35]
omit [O35] in
@[simp] theorem bc_at (bs : List UInt8) (i : Nat) (h : i < (bc bs).length) : (bc bs)[i]'h = byteAV (bs[i]'(by simpa using h)) := by simp [bc]
omit [O35] in
theorem Bs.arr {h : AHeap} {x : AV} {bs : List UInt8} (hb : Bs h x bs) (hl : 24 ≤ bs.length) : ∃ b o, psl2arr Try.prog 122 x = some (.ptr b o) ∧ blk x = some b ∧ b < h.next ∧ atCells Try.prog 122 (h.get b) o = some (.agg (bc (bs.take 24))) := by
  have hu : Try.prog.underlying 122 = some (.array 24 5) := by kernel_rfl
  rcases hb.2 with ⟨_, h2⟩ | ⟨b, o, z, c, ty, cs, wr, rfl, h3, h4, h5, h6, _⟩ | ⟨h2, _⟩
  · have : bs.length = 0 := by simpa using congrArg List.length h2
    omega
  · simp only [List.length_map, Nat.mul_one] at h5 h6
    refine ⟨b, o, ?_, rfl, h3, ?_⟩
    · simp only [psl2arr, hu, List.length_map]
      rw [if_pos ⟨hl, by omega⟩]
    · rw [h4, ac122, if_pos (by omega)]
      rw [byt_flat] at h6
      have e1 : ((cs.drop o).take bs.length).take 24 = (cs.drop o).take 24 := by rw [List.take_take, Nat.min_eq_left hl]
      rw [← e1, h6, bc, bc, List.map_take]
  · have : bs.length = 0 := by simpa using congrArg List.length h2
    omega
omit [O35] in
theorem Bs.slice {h : AHeap} {x : AV} {bs : List UInt8} (hb : Bs h x bs) {lo hi : Option AV} {i j : Nat} (hlo : bnd lo 0 = some i) (hhi : bnd hi bs.length = some j) (hij : i ≤ j) (hj : j ≤ bs.length) :
    ∃ x', pslice Try.prog 34 x lo hi none = some x' ∧ Bs h x' ((bs.drop i).take (j - i)) ∧ blk x' = blk x := by
  obtain ⟨x', h1, h2, h3⟩ := Sl.slice hb sl34 sz5 hlo (by simpa using hhi) hij (by simpa using hj)
  exact ⟨x', h1, by simpa [Bs, List.map_take, List.map_drop] using h2, h3⟩
theorem pdec_sp (h : AHeap) (x : AV) (bs : List UInt8) (hx : Bs h x bs) (hl : bs.length ≤ 100000000) :
    Ca Try.prog 39 [x] h fun r h' => ∃ d, r = .tuple [.agg ((decO bs).cells d), i64 (decE bs)] ∧ Bs h' d (decO bs).data ∧ Pres h h' ∧ Fresh h d := by
  refine ci Try.func39 rfl (by decide) ?_
  intro fr hn hg
  replace hn : fr.n = 98 := hn
  have h0 : fr.get 0 = some x := hg 0 (by simp)
  clear hg
  show AW _ _ _ _ _
  have hp1 : Pres h (h.new (.cells 52 (Fm.cells ⟨0, false, 0, 0, []⟩ .nilsl) (some 0))) := (Pres.refl h).new _
  have hb1 : (h.new (.cells 52 (Fm.cells ⟨0, false, 0, 0, []⟩ .nilsl) (some 0))).get h.next = .cells 52 (Fm.cells ⟨0, false, 0, 0, []⟩ .nilsl) (some 0) := by simp
  have hn1 : (h.new (.cells 52 (Fm.cells ⟨0, false, 0, 0, []⟩ .nilsl) (some 0))).next = h.next + 1 := by simp
  simp [hn, h0]
  rw [kseq_normal]
  have hx1 := hx.pres hp1
  generalize (h.new (.cells 52 (Fm.cells ⟨0, false, 0, 0, []⟩ .nilsl) (some 0))) = h1 at *
  have hlen := hx1.len
  -- the end with an error
  have bad : ∀ (e : Int) (fr' : AFrame) (h' : AHeap), e ≠ 0 → decE bs = e → fr'.get 2 = some (.ptr h.next 0) → fr'.get 3 = some (i64 e) → Pres h1 h' →
      kfun Try.prog [ResultVar.cell 2 52, ResultVar.tmp 3] (fun r h' => ∃ d, r = .tuple [.agg ((decO bs).cells d), i64 (decE bs)] ∧ Bs h' d (decO bs).data ∧ Pres h h' ∧ Fresh h d) .ret fr' (h'.set h.next (.cells 52 (Fm.cells ⟨0, false, 0, 0, []⟩ .nilsl) (some 0))) := fun e fr' h' he hd g2 g3 hp => by
    rw [kfun_ret]
    simp [g2, g3]
    have := hp.1
    refine ⟨.nilsl, ⟨by rw [decO_no (by omega)]; exact ⟨rfl, rfl, rfl, rfl, rfl⟩, hd.symm⟩, by rw [decO_no (by omega)]; exact Sl.nil _ _, ⟨by simp; omega, fun c hc => ?_⟩, fun c hc => by simp [blk] at hc⟩
    rw [AHeap.get_set, if_neg (by omega), hp.2 _ (by omega), hp1.2 _ hc]
  have bad2 : ∀ (e : Int) (h' : AHeap), e ≠ 0 → decE bs = e → Pres h1 h' →
      ∃ d, ((0 = (decO bs).kind ∧ (decO bs).last = false ∧ 0 = (decO bs).msg ∧ 0 = (decO bs).frag ∧ AV.nilsl = d) ∧ e = decE bs) ∧ Bs (h'.set h.next (.cells 52 (Fm.cells ⟨0, false, 0, 0, []⟩ .nilsl) (some 0))) d (decO bs).data ∧ Pres h (h'.set h.next (.cells 52 (Fm.cells ⟨0, false, 0, 0, []⟩ .nilsl) (some 0))) ∧ Fresh h d := fun e h' he hd hp => by
    have := hp.1
    refine ⟨.nilsl, ⟨by rw [decO_no (by omega)]; exact ⟨rfl, rfl, rfl, rfl, rfl⟩, hd.symm⟩, by rw [decO_no (by omega)]; exact Sl.nil _ _, ⟨by simp; omega, fun c hc => ?_⟩, fun c hc => by simp [blk] at hc⟩
    rw [AHeap.get_set, if_neg (by omega), hp.2 _ (by omega), hp1.2 _ hc]
  rw [AW_seq]
  refine AW_cut (Q' := fun e fr' h' => (e = .ret ∧ decE bs = 12 ∧ fr'.get 2 = some (.ptr h.next 0) ∧ fr'.get 3 = some (i64 12) ∧ h' = h1.set h.next (.cells 52 (Fm.cells ⟨0, false, 0, 0, []⟩ .nilsl) (some 0))) ∨ (e = .normal ∧ (ilt (bs.length : Int) 24 || ilt 4120 (bs.length : Int)) = false ∧ fr'.n = 98 ∧ fr'.get 0 = some x ∧ fr'.get 2 = some (.ptr h.next 0) ∧ h' = h1)) ?_ ?_
  · have e0 : (ilt (bs.length : Int) 24 || ilt 4120 (bs.length : Int)) = true → decE bs = 12 := fun hc => by unfold decE; rw [if_pos hc]
    simp [hn, h0, hlen, kseq_normal, pb52]
    repeat' (first | refine Br.mk (fun hb => ?_) (fun hb => ?_) | simp [*, kseq_normal, pb52, stc_all sz52] at * | simp [*, kseq_normal, pb52, stc_all sz52])
  clear hn h0
  rintro e fr2 h2 (⟨rfl, he, k2, k3, rfl⟩ | ⟨rfl, hc1, hn, g0, g2, rfl⟩)
  · rw [kseq_ret]; exact bad 12 fr2 h1 (by omega) he k2 k3 (Pres.refl _)
  rw [Bool.or_eq_false_iff, ilt_false, ilt_false] at hc1
  have hl24 : 24 ≤ bs.length := by omega
  rw [kseq_normal, AW_seq]
  -- the head, and the fields
  obtain ⟨xb, xo, hps, hxb, hxn, hld⟩ := hx1.arr hl24
  refine AW_region_d [.plain, .plain, .load [0], .eff [2], .plain, .plain, .eff [], .eff []] (by kernel_rfl) (by kernel_rfl) ?_
  have hT0 : (bs.take 24)[0]? = some (bs[0]'(by omega)) := by rw [List.getElem?_take, if_pos (by omega), List.getElem?_eq_getElem]
  have hT1 : (bs.take 24)[1]? = some (bs[1]'(by omega)) := by rw [List.getElem?_take, if_pos (by omega), List.getElem?_eq_getElem]
  have hTl : (bs.take 24).length = 24 := by rw [List.length_take]; omega
  have hy0 : by0 bs = (bs[0]'(by omega)).toNat := by unfold by0; rw [List.getElem?_eq_getElem (by omega)]; rfl
  have hy1 : by1 bs = (bs[1]'(by omega)).toNat := by unfold by1; rw [List.getElem?_eq_getElem (by omega)]; rfl
  have hfld : ∀ a n, a + n ≤ 24 → getN (((bs.take 24).drop a).take n) = fld bs a n := fun a n h => fld_take h
  generalize bs.take 24 = T at *
  have hg0 : T[0]'(by omega) = bs[0]'(by omega) := by rw [List.getElem?_eq_getElem (by omega)] at hT0; exact Option.some.inj hT0
  have hg1 : T[1]'(by omega) = bs[1]'(by omega) := by rw [List.getElem?_eq_getElem (by omega)] at hT1; exact Option.some.inj hT1
  have hTt : List.take 24 (bc T) = bc T := List.take_of_length_le (by simp [hTl])
  generalize hc0 : bs[0]'(by omega) = c0 at *
  generalize hc1' : bs[1]'(by omega) = c1 at *
  refine DW_cut (fun fr' h' => fr'.n = 98 ∧ fr'.get 0 = some x ∧ fr'.get 2 = some (.ptr h.next 0) ∧ ∃ q, fr'.get 4 = some (.ptr q 0) ∧ fr'.get 5 = some (.ptr (q + 1) 0) ∧ h'.get q = .cells 122 (bc T) (some 0) ∧ h'.get (q + 1) = .cells 111 fieldsL (some 0) ∧ Pres h2 h' ∧ q + 1 < h'.next ∧ h2.next ≤ q) ?_ ?_
  · simp [hn, g0, g2, hps, hld]
    refine (fields_sp h2).mono ?_
    rintro r h3 ⟨rfl, hp3⟩
    simp [hn, g0, g2, hp3.2 xb hxn, hld, stc_all sz111, stc_all sz122, hTl]
    exact ⟨Pres.set (Pres.set ((hp3.new _).new _) (by have := hp3.1; omega) _) (by have := hp3.1; omega) _, hp3.1⟩
  clear hn g0 g2 hld hps
  rintro fr3 h3 ⟨hn, g0, g2, q, g4, g5, q4, q5, hp3, hq, hq2⟩
  rw [kseq_normal, AW_seq]
  -- the frame
  obtain ⟨x', hx', hxs, hxsb⟩ := (hx1.pres hp3).slice (lo := some (i64 24)) (hi := none) (i := 24) (j := bs.length) (by rfl) (by rfl) hl24 (Nat.le_refl _)
  rw [List.take_of_length_le (by simp)] at hxs
  have keep : ∀ h', Pres h3 h' → h'.get q = .cells 122 (bc T) (some 0) ∧ h'.get (q + 1) = .cells 111 fieldsL (some 0) := fun h' hp => ⟨(hp.2 _ (by omega)).trans q4, (hp.2 _ hq).trans q5⟩
  refine AW_region_d [.plain, .load [0], .plain, .plain, .load [0], .plain, .plain, .load [0], .load [0], .eff [1, 4], .plain, .plain, .load [0, 10], .load [0, 10], .eff [1, 4], .plain, .plain, .plain, .eff [1, 4], .plain, .plain, .eff []] (by kernel_rfl) (by kernel_rfl) ?_
  refine DW_cut (fun fr' h' => fr'.n = 98 ∧ fr'.get 0 = some x ∧ fr'.get 2 = some (.ptr h.next 0) ∧ fr'.get 4 = some (.ptr q 0) ∧ fr'.get 5 = some (.ptr (q + 1) 0) ∧ ∃ p d, fr'.get 6 = some (.ptr p 0) ∧ h'.get p = .cells 52 ((decFm bs).cells d) (some 0) ∧ Bs h' d (decFm bs).data ∧ Pres h3 h' ∧ p < h'.next ∧ h3.next ≤ p ∧ Fresh h3 d) ?_ ?_
  · simp [hn, g0, g2, g4, g5, q4, q5, hg0, hg1, hTl, hTt, byteAV]
    refine (pget_sp h3 4 8 T hTl (by omega)).mono ?_
    rintro r h4 ⟨rfl, hp4⟩
    obtain ⟨k4, k5⟩ := keep h4 hp4
    simp [hn, g0, g2, g4, g5, q4, q5, k4, k5, hg0, hg1, hTl, hTt, byteAV, hfld 4 8 (by omega)]
    refine (pget_sp h4 12 4 T hTl (by omega)).mono ?_
    rintro r h5 ⟨rfl, hp5⟩
    obtain ⟨l4, l5⟩ := keep h5 (hp4.trans hp5)
    simp [hn, g0, g2, g4, g5, q4, q5, k4, k5, l4, l5, hg0, hg1, hTl, hTt, byteAV, hfld 12 4 (by omega), hx']
    refine (clone_sp h5 x' (bs.drop 24) (hxs.pres (hp4.trans hp5)) (by simp; omega)).mono ?_
    rintro d h6 ⟨hg6, hp6, hf6⟩
    have hpp := (hp4.trans hp5).trans hp6
    obtain ⟨m4, m5⟩ := keep h6 hpp
    obtain ⟨hd1, hd2, hd3⟩ := hg6.bs.one
    simp [hn, g0, g2, g4, g5, q4, q5, m4, m5, l4, l5, k4, k5, hg0, hg1, hTl, hTt, byteAV, pb52, splice, hd1, hd2, stc_all sz52]
    have hpn := hpp.1
    refine ⟨d, ⟨by rw [← hy0]; rfl, by rw [← hy1]; rfl, rfl, rfl, rfl⟩, Sl.keep hg6.bs (by simp) fun c hc hlt => by rw [AHeap.get_set, if_neg (by omega), AHeap.get_new, if_neg (by omega)], Pres.set (hpp.new _) hpn _, hpn, fun c hc => by have := hf6 c hc; have := hp4.1; have := hp5.1; omega⟩
  clear hn g0 g2 g4 g5 hx' hxs hxsb
  rintro fr4 h4 ⟨hn, g0, g2, g4, g5, p, d, g6, hpb, hd4, hp4, hpn, hpn3, hdf⟩
  obtain ⟨r4, r5⟩ := keep h4 hp4
  clear keep q4 q5
  have hpa := hp3.trans hp4
  have hh3 := hp3.1
  have hh4 := hp4.1
  have hx4 := hx1.pres hpa
  have hlen4 := hx4.len
  have hdl := hd4.len
  have hfd : Fresh h d := fun c hc => by have := hdf c hc; omega
  have keep : ∀ h', Pres h4 h' → h'.get q = .cells 122 (bc T) (some 0) ∧ h'.get (q + 1) = .cells 111 fieldsL (some 0) ∧ h'.get p = .cells 52 ((decFm bs).cells d) (some 0) := fun h' hp => ⟨(hp.2 _ (by omega)).trans r4, (hp.2 _ (by omega)).trans r5, (hp.2 _ hpn).trans hpb⟩
  have hkd : IntKind.i64.wrap (c0.toNat : Int) = (decFm bs).kind := by rw [← hy0]; rfl
  clear hp3 hp4 hx1 hxn hxb
  generalize hF : decFm bs = F at *
  rw [kseq_normal, AW_seq, AW_region_f]
  -- what is right
  refine OW_cut (fun fr' h' => h' = h4 ∧ fr'.n = 98 ∧ fr'.get 0 = some x ∧ fr'.get 2 = some (.ptr h.next 0) ∧ fr'.get 4 = some (.ptr q 0) ∧ fr'.get 5 = some (.ptr (q + 1) 0) ∧ fr'.get 6 = some (.ptr p 0) ∧ fr'.get 7 = some (.bool (ieq F.kind 1 || (ieq F.kind 2 && ieq (by1 bs) 0 && ieq (F.data.length : Int) 0)))) ?_ ?_
  · simp [hn, g0, g2, g4, g5, g6, r4, hpb, hg1, hTl, byteAV, hy1, hdl]
    repeat' (first | refine Br.mk (fun hb => ?_) (fun hb => ?_) | simp [*, byteAV])
  clear hn g0 g2 g4 g5 g6
  rintro fr5 h5 ⟨rfl, hn, g0, g2, g4, g5, g6, g7⟩
  rw [kseq_normal, AW_seq, AW_seq]
  refine AW_region_d [.plain, .plain, .plain, .plain, .load [0], .plain, .plain, .plain, .plain, .load [0], .load [0], .eff [], .plain, .plain, .load [0, 12], .plain, .plain, .plain, .plain, .plain, .load [12], .plain, .plain, .plain, .plain, .load [12], .plain, .plain] (by kernel_rfl) (by kernel_rfl) ?_
  have hf22 := hfld 2 2 (by omega)
  have hfm : fmtP bs = (!(ieq F.kind 1 || (ieq F.kind 2 && ieq (by1 bs) 0 && ieq (F.data.length : Int) 0)) || ilt 1 (by1 bs) || !(ieq (IntKind.i64.wrap (fld bs 2 2)) (F.data.length : Int)) || ilt F.msg 1 || ilt 2147483647 F.frag) := by rw [← hF]; rfl
  generalize hR : (ieq F.kind 1 || (ieq F.kind 2 && ieq (by1 bs) 0 && ieq (F.data.length : Int) 0)) = R at *
  refine DW_cut (fun fr' h' => Pres h5 h' ∧ fr'.n = 98 ∧ fr'.get 0 = some x ∧ fr'.get 2 = some (.ptr h.next 0) ∧ fr'.get 4 = some (.ptr q 0) ∧ fr'.get 5 = some (.ptr (q + 1) 0) ∧ fr'.get 6 = some (.ptr p 0) ∧ fr'.get 87 = some (.bool (fmtP bs))) ?_ ?_
  · rw [hfm]
    simp [hn, g0, g2, g4, g5, g6, g7, r4, r5, hpb, hg1, hTl, hTt, byteAV, hy1, hdl]
    have hpr := Pres.refl h5
    repeat' (first
      | refine Br.mk (fun hb => ?_) (fun hb => ?_)
      | (refine (pget_sp h5 2 2 T hTl (by omega)).mono ?_
         rintro r h6 ⟨rfl, hp6⟩
         obtain ⟨m4, m5, m6⟩ := keep h6 hp6)
      | simp [*, byteAV])
  clear hn g0 g2 g4 g5 g6 g7 hR hfm
  rintro fr6 h6 ⟨hp6, hn, g0, g2, g4, g5, g6, gc⟩
  obtain ⟨m4, m5, m6⟩ := keep h6 hp6
  have hpb6 := hpa.trans hp6
  have hnoc : (ilt (bs.length : Int) 24 || ilt 4120 (bs.length : Int)) = false := by rw [Bool.or_eq_false_iff, ilt_false, ilt_false]; exact hc1
  simp [hn, g0, g2, g4, g5, g6, gc, kseq_normal]
  refine Br.mk (fun hb => ?_) (fun hb => ?_)
  · have e12 : decE bs = 12 := by unfold decE; rw [hnoc]; simp [hb]
    have hb6 : h6.get h.next = .cells 52 (Fm.cells ⟨0, false, 0, 0, []⟩ .nilsl) (some 0) := (hpb6.2 _ (by omega)).trans hb1
    simp [hn, g2, pb52, hb6, stc_all sz52, kseq_normal]
    exact bad2 12 h6 (by omega) e12 hpb6
  rw [hb] at gc
  simp [hn, g0, g2, g4, g5, g6, m4, m5, hTt, hTl, kseq_normal]
  refine (pget_sp h6 16 8 T hTl (by omega)).mono ?_
  rintro r h7 ⟨rfl, hp7⟩
  have hpb7 := hpb6.trans hp7
  obtain ⟨n4, n5, n6⟩ := keep h7 (hp6.trans hp7)
  simp [hn, g0, g2, g4, g5, g6, hfld 16 8 (by omega), kseq_normal]
  refine (pdig_sp h7 x bs ((hx4.pres hp6).pres hp7) (by omega) hl24).mono ?_
  rintro r h8 ⟨rfl, rfl⟩
  have hb8 : h8.get h.next = .cells 52 (Fm.cells ⟨0, false, 0, 0, []⟩ .nilsl) (some 0) := (hpb7.2 _ (by omega)).trans hb1
  simp [hn, g0, g2, g4, g5, g6, kseq_normal]
  refine Br.mk (fun hc => ?_) (fun hc => ?_)
  · have e0 : decE bs = 0 := by unfold decE; rw [hnoc]; simp [hb, hc]
    obtain ⟨hd1, hd2, hd3⟩ := hd4.one
    have hb9 := (hd4.pres hp6).pres hp7
    have hl8 := hpb7.1
    simp [hn, g2, g6, n6, hb8, stc_all sz52, hd2, kseq_normal]
    rw [decO_ok e0, hF]
    refine ⟨d, ⟨⟨rfl, rfl, rfl, rfl, rfl⟩, e0.symm⟩, Sl.keep hb9 (by simp) fun c hc hlt => by rw [AHeap.get_set, if_neg (by have := hdf c hc; omega)], ⟨by simp; omega, fun c hc => ?_⟩, hfd⟩
    rw [AHeap.get_set, if_neg (by omega), hpb7.2 _ (by omega), hp1.2 _ hc]
  · have e6 : decE bs = 6 := by unfold decE; rw [hnoc]; simp [hb, hc]
    simp [hn, g2, pb52, hb8, stc_all sz52, kseq_normal]
    exact bad2 6 h8 (by omega) e6 hpb7
end Go.Eng.L35
