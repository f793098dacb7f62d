/- Law 35: frames into bytes: the program. -/
import Derived.Test.YtcjgagkkanokjabL35D
namespace Go.Eng.L35
open Go.Proofs Go.Eng
structure Fm where
  kind : Int
  last : Bool
  msg : Int
  frag : Int
  data : List UInt8
/-- The cells of a frame whose data is d. -/
abbrev Fm.cells (f : Fm) (d : AV) : List AV := [i64 f.kind, .bool f.last, i64 f.msg, i64 f.frag, d]
def encE (f : Fm) : Int :=
  if !(ieq f.kind 1) && !(ieq f.kind 2) then 17 else
  if ieq f.kind 2 && (f.last || ilt 0 (f.data.length : Int)) then 14 else
  if ilt f.msg 1 || ilt f.frag 0 || ilt 2147483647 f.frag then 34 else
  if ilt 4096 (f.data.length : Int) then 20 else 0
def flagB (l : Bool) : UInt8 := if l then 1 else 0
/-- The head, but for the checksum. -/
def head16 (f : Fm) : List UInt8 := [toB f.kind, flagB f.last] ++ beB 2 (IntKind.u64.wrap (f.data.length : Int)) ++ beB 8 (IntKind.u64.wrap f.msg) ++ beB 4 (IntKind.u64.wrap f.frag)
theorem head16_len (f : Fm) : (head16 f).length = 16 := by simp [head16, beB_len]
def encB (f : Fm) : List UInt8 := head16 f ++ beB 8 (digN (head16 f ++ f.data)) ++ f.data
def encO (f : Fm) : List UInt8 := if encE f = 0 then encB f else []
theorem encO_ok {f : Fm} (h : encE f = 0) : encO f = encB f := by simp [encO, h]
theorem encO_no {f : Fm} (h : encE f ≠ 0) : encO f = [] := by simp [encO, h]
theorem setB_head {A D l : List UInt8} {m : Nat} (hl : l.length ≤ m) : setB (A ++ List.replicate m 0 ++ D) A.length l = (A ++ l) ++ List.replicate (m - l.length) 0 ++ D := by
  unfold setB
  rw [List.append_assoc A, List.take_left' rfl, ← List.drop_drop, List.drop_left' rfl]
  rw [List.drop_append_of_le_length (by simpa using hl), List.drop_replicate]
  simp [List.append_assoc]
theorem set_head {A D : List UInt8} {m : Nat} (c : UInt8) : (A ++ List.replicate (m + 1) 0 ++ D).set A.length c = (A ++ [c]) ++ List.replicate m 0 ++ D := by
  rw [List.append_assoc A, List.set_append_right _ _ (Nat.le_refl _), Nat.sub_self, List.replicate_succ]
  simp [List.append_assoc]
def zs24 : List UInt8 := List.replicate 24 0
@[simp] theorem zs24_len : zs24.length = 24 := rfl
variable [O35]
omit [O35] in
theorem pms34_24 : pms Try.prog 34 (i64 24) (i64 24) = some (5, bc zs24, .sl 24 24) := by kernel_rfl
omit [O35] in
/-- Bytes behind the room for a head. -/
theorem appW {h : AHeap} {b : Nat} {x y : AV} {l k : List UInt8} (hx : x = .sl b 0 0 l.length (.at_ l.length)) (hb : b < h.next) (hc : h.get b = .cells 5 (bc l) (some 0)) (hy : Bs h y k) (hlen : l.length + k.length ≤ 100000000) :
    ∃ b' x' h', aappend Try.prog h [34, 34] [x, y] = some (x', h') ∧ Wb h' b' x' (l ++ k) ∧ Pres h h' ∧ (b' = b ∨ h.next ≤ b') := by
  subst hx
  have hk := Bs.src hy
  have hkf : (byt k).flatten = bc k := byt_flat k
  rw [hkf, List.length_map] at hk
  by_cases hk0 : k.length = 0
  · obtain rfl : k = [] := List.length_eq_zero_iff.1 hk0
    exact ⟨b, .sl b 0 0 l.length (.at_ l.length), h, by simp only [aappend, sl34, sz5, by5, z5, hk, List.length_nil, if_true], ⟨0, .at_ l.length, by simp, hb, by simpa using hc, by simp [Cok]⟩, Pres.refl h, .inl rfl⟩
  · refine ⟨h.next, .sl h.next 0 0 (l.length + k.length) (.op 1 (l.length + k.length)), h.new (.cells 5 (bc (l ++ k)) (some 0)), ?_, ⟨0, .op 1 (l.length + k.length), by simp, by simp, by simp, rfl⟩, (Pres.refl h).new _, .inr (Nat.le_refl _)⟩
    simp only [aappend, sl34, sz5, by5, z5, hk, hc, agrow]
    rw [if_neg hk0, if_neg (by simp), if_neg (by omega), if_pos (by simp), if_pos ⟨by omega, by omega, rfl, by omega⟩]
    simp [List.take_of_length_le, bc]
theorem penc_sp (h : AHeap) (f : Fm) (d : AV) (hd : Bs h d f.data) (hl : f.data.length ≤ 1000000) :
    Ca Try.prog 33 [.agg (f.cells d)] h fun r h' => ∃ y, r = .tuple [y, i64 (encE f)] ∧ Bs h' y (encO f) ∧ Pres h h' ∧ Fresh h y := by
  refine ci Try.func33 rfl (by decide) ?_
  intro fr hn hg
  replace hn : fr.n = 91 := hn
  have h0 : fr.get 0 = some (.agg (f.cells d)) := hg 0 (by simp)
  clear hg
  show AW _ _ _ _ _
  obtain ⟨hd1, hd2, hd3⟩ := hd.one
  have hp1 : Pres h (h.new (.cells 52 (f.cells d) (some 0))) := (Pres.refl h).new _
  have hb1 : (h.new (.cells 52 (f.cells d) (some 0))).get h.next = .cells 52 (f.cells d) (some 0) := by simp
  have hn1 : (h.new (.cells 52 (f.cells d) (some 0))).next = h.next + 1 := by simp
  rw [AW_seq]
  simp [hn, h0, hd2]
  rw [kseq_normal]
  have hd' := hd.pres hp1
  generalize (h.new (.cells 52 (f.cells d) (some 0))) = h1 at *
  rw [AW_seq]
  refine AW_cut (Q' := fun e fr' h' => h' = h1 ∧ ((e = .ret ∧ encE f ≠ 0 ∧ fr'.get 2 = some .nilsl ∧ fr'.get 3 = some (i64 (encE f))) ∨ (e = .normal ∧ encE f = 0 ∧ fr'.n = 91 ∧ fr'.get 1 = some (.ptr h.next 0)))) ?_ ?_
  · have hlen := hd'.len
    simp [hn, hb1, kseq_normal]
    repeat' (first | refine Br.mk (fun hb => ?_) (fun hb => ?_) | simp [*, encE, kseq_normal] | (rw [ieq_true] at *; omega))
  rintro e fr2 h2 ⟨rfl, ⟨rfl, he, k2, k3⟩ | ⟨rfl, he, hn2, k1⟩⟩
  · rw [kseq_ret, kfun_ret]
    simp [k2, k3]
    exact ⟨by rw [encO_no he]; exact Sl.nil _ _, hp1, fun b hb => by simp [blk] at hb⟩
  clear h0 hn
  rw [kseq_normal, AW_seq]
  refine AW_region_d [.plain, .plain, .load [0], .eff [], .plain] (by kernel_rfl) (by kernel_rfl) ?_
  have hlt : h.next < h2.next := by omega
  have hp2 : Pres h2 (h2.new (.cells 5 (bc zs24) (some 0))) := (Pres.refl h2).new _
  have hd2' := hd'.pres hp2
  obtain ⟨b, x, h3, ha, hw, hp3, hbb⟩ := appW (h := h2.new (.cells 5 (bc zs24) (some 0))) (b := h2.next) (x := .sl h2.next 0 0 24 (.at_ 24)) (l := zs24) (k := f.data) (by simp) (by simp) (by simp) hd2' (by simp; omega)
  have hne : (h2.next = h.next) = False := eq_false (by omega)
  simp [hn2, k1, hb1, pms34_24, hne]
  rw [ha]
  have hp13 := (hp1.trans hp2).trans hp3
  have hb3 : h3.get h.next = .cells 52 (f.cells d) (some 0) := (hp3.2 _ (by simp; omega)).trans ((hp2.2 _ hlt).trans hb1)
  have hd3' := hd2'.pres hp3
  have hnx3 : h.next < h3.next := by have := hp3.1; simp at this; omega
  have hbh : h2.next ≤ b := by rcases hbb with e | e; omega; simp at e; omega
  simp [hn2, k1, hb1]
  rw [kseq_normal]
  clear hp2 hd2' hp3 ha hbb hb1 hd' hp1
  -- the first byte
  have hlen : (zs24 ++ f.data).length = 24 + f.data.length := by simp
  have hbne : b ≠ h.next := by omega
  obtain ⟨z, cap, rfl, hbn, hbc, hck⟩ := hw
  have hi0 : pindexAddr Try.prog 34 (.sl b 0 z (zs24 ++ f.data).length cap) (i64 0) = some (.ptr b 0) := by simp [pindexAddr, nat?, sl34, sz5]
  have hi1 : pindexAddr Try.prog 34 (.sl b 0 z (zs24 ++ f.data).length cap) (i64 1) = some (.ptr b 1) := by simp [pindexAddr, nat?, sl34, sz5]; omega
  have hs0 : ∀ (c : UInt8) (cs : List UInt8), 24 ≤ cs.length → stc Try.prog 5 (.cells 5 (bc cs) (some 0)) 0 (byteAV c) = some (.cells 5 (bc (cs.set 0 c)) (some 0)) := fun c cs hcs => by rw [stc_one sz5 (by rw [bc_len]; omega) rfl rfl, bc_set]
  have hs1 : ∀ (cs : List UInt8), 24 ≤ cs.length → stc Try.prog 5 (.cells 5 (bc cs) (some 0)) 1 (.int .u8 1) = some (.cells 5 (bc (cs.set 1 1)) (some 0)) := fun cs hcs => by rw [stc_one sz5 (by rw [bc_len]; omega) rfl rfl]; exact congrArg (fun x => some (AObj.cells 5 x (some 0))) (bc_set cs 1 1)
  simp only [hlen] at hi0 hi1 hbc hck
  rw [hlen]
  have hd4' : ∀ h', h3.next ≤ h'.next → (∀ c, c < h3.next → c ≠ b → h'.get c = h3.get c) → Bs h' d f.data := fun h' k1 k2 => Sl.keep hd3' k1 fun c hc hlt => k2 c hlt fun e => by have := Sl.blk_lt hd hc; omega
  simp [hn2, k1, hb3, hi0, u8wrap, hbc, hs0, hlen]
  rw [kseq_normal, AW_seq]
  have e0 : (zs24 ++ f.data).set 0 (toB f.kind) = [toB f.kind] ++ List.replicate 23 0 ++ f.data := set_head (A := []) (m := 23) _
  generalize hB1 : (zs24 ++ f.data).set 0 (toB f.kind) = B1 at *
  have hB1l : B1.length = 24 + f.data.length := by rw [← hB1, List.length_set, hlen]
  simp [hn2, k1, hb3, hbne]
  rw [kseq_normal]
  refine AW_cut (Q' := fun e fr' h' => e = .normal ∧ fr'.n = 91 ∧ fr'.get 1 = some (.ptr h.next 0) ∧ fr'.get 4 = some (.sl b 0 z (24 + f.data.length) cap) ∧ h'.get b = .cells 5 (bc ([toB f.kind, flagB f.last] ++ List.replicate 22 0 ++ f.data)) (some 0) ∧ h'.next = h3.next ∧ ∀ c, c ≠ b → h'.get c = h3.get c) ?_ ?_
  · simp [hn2, k1, hb3, hbne]
    refine Br.mk (fun hb => ?_) (fun hb => ?_)
    · have e1 := set_head (A := [toB f.kind]) (m := 22) (D := f.data) 1
      simp only [List.length_singleton] at e1
      rw [← e0] at e1
      simp [hn2, k1, hi1, hb, flagB, hs1 B1 (by omega), e1]
      intro c hc
      have hc2 : ¬ b = c := fun e => hc e.symm
      simp [hc2]
    · simp [hn2, k1, hb, flagB, e0]
      intro c hc
      have hc2 : ¬ b = c := fun e => hc e.symm
      simp [hc2]
  rintro e fr4 h4 ⟨rfl, hn4, g1, g4, gb, gn, gk⟩
  clear hn2 k1 hs0 hs1 hi0 hi1 hB1l e0 hB1 B1
  rw [kseq_normal]
  have hw4 : Wb h4 b (.sl b 0 z (24 + f.data.length) cap) ([toB f.kind, flagB f.last] ++ List.replicate 22 0 ++ f.data) := ⟨z, cap, by simp; omega, by omega, gb, by simpa [Nat.add_comm, Nat.add_left_comm] using hck⟩
  have hb4 : h4.get h.next = .cells 52 (f.cells d) (some 0) := (gk _ (by omega)).trans hb3
  have hp4 : Pres h h4 := ⟨by have := hp13.1; omega, fun c hc => (gk c (by omega)).trans (hp13.2 c hc)⟩
  clear gb gn gk hbc hp13 hb3 hd3' hck hd4' hlt
  have hlt4 : h.next < h4.next := by obtain ⟨_, _, _, k, _⟩ := hw4; omega
  simp [hn4]
  refine (fields_sp h4).mono ?_
  rintro r h5 ⟨rfl, hp5⟩
  generalize hX : AV.sl b 0 z (24 + f.data.length) cap = X at *
  have hp5n := hp5.1
  have hbn4 : b < h4.next := by obtain ⟨_, _, _, k, _⟩ := hw4; exact k
  let J : AHeap → List UInt8 → Prop := fun h' bs => Wb h' b X bs ∧ h'.get h.next = .cells 52 (f.cells d) (some 0) ∧ h'.get h5.next = .cells 111 fieldsL (some 0) ∧ (∀ c, c < h.next → h'.get c = h.get c) ∧ h5.next < h'.next
  have step : ∀ h' bs h'' bs', J h' bs → Wb h'' b X bs' → Upd [b] h' h'' → J h'' bs' := by
    rintro h' bs h'' bs' ⟨j1, j2, j3, j4, j5⟩ hw hu
    have k : ∀ c, c < h'.next → c ≠ b → h''.get c = h'.get c := fun c hc hcb => hu.2 c hc (by simpa using hcb)
    exact ⟨hw, (k _ (by omega) (by omega)).trans j2, (k _ (by omega) (by omega)).trans j3, fun c hc => (k c (by omega) (by omega)).trans (j4 c hc), by have := hu.1; omega⟩
  have hJd : ∀ h' bs, J h' bs → Bs h' d f.data := fun h' bs ⟨_, _, _, j4, j5⟩ => Sl.keep hd (by omega) fun c _ hlt => j4 c hlt
  have hJ0 : ∀ o1, J ((h5.new o1).set h5.next (.cells 111 fieldsL (some 0))) ([toB f.kind, flagB f.last] ++ List.replicate 22 0 ++ f.data) := by
    intro o1
    refine ⟨hw4.keep (by simp; omega) ?_, ?_, by simp, fun c hc => ?_, by simp⟩
    · rw [AHeap.get_set, if_neg (by omega), AHeap.get_new, if_neg (by omega)]; exact hp5.2 _ hbn4
    · rw [AHeap.get_set, if_neg (by omega), AHeap.get_new, if_neg (by omega)]; exact (hp5.2 _ hlt4).trans hb4
    · rw [AHeap.get_set, if_neg (by omega), AHeap.get_new, if_neg (by omega)]; exact (hp5.2 _ (by omega)).trans (hp4.2 c hc)
  simp [hn4, stc_all sz111]
  rw [kseq_normal]
  have hJ := hJ0 (.cells 111 [i64 0, i64 0, i64 0, i64 0, i64 0, i64 0, i64 0, i64 0] (some 0))
  clear hJ0 hw4 hb4 hp5 hne hbn hnx3
  generalize hbs0 : [toB f.kind, flagB f.last] ++ List.replicate 22 0 ++ f.data = bs0 at *
  generalize ((h5.new (.cells 111 [i64 0, i64 0, i64 0, i64 0, i64 0, i64 0, i64 0, i64 0] (some 0))).set h5.next (.cells 111 fieldsL (some 0))) = h6 at *
  have hl0 : bs0.length = 24 + f.data.length := by rw [← hbs0]; simp; omega
  -- the length
  have hlen6 := (hJd _ _ hJ).len
  simp [hn4, g1, g4, hJ.2.1, hJ.2.2.1, hlen6]
  refine (pput_sp h6 b X bs0 2 2 (IntKind.u64.wrap (f.data.length : Int)) hJ.1 (by omega) (by omega) (by omega)).mono ?_
  rintro r h7 ⟨rfl, hw7, hu7⟩
  have hJ7 := step _ _ _ _ hJ hw7 hu7
  have hl7 : (setB bs0 2 (beB 2 (IntKind.u64.wrap (f.data.length : Int)))).length = 24 + f.data.length := by rw [setB_len (by rw [beB_len]; omega), hl0]
  clear hJ hw7 hu7 hlen6
  generalize hbs1 : setB bs0 2 (beB 2 (IntKind.u64.wrap (f.data.length : Int))) = bs1 at *
  simp [hn4]
  rw [kseq_normal]
  -- the message
  simp [hn4, g1, g4, hJ7.2.1, hJ7.2.2.1]
  refine (pput_sp h7 b X bs1 4 8 (IntKind.u64.wrap f.msg) hJ7.1 (by omega) (by omega) (by omega)).mono ?_
  rintro r h8 ⟨rfl, hw8, hu8⟩
  have hJ8 := step _ _ _ _ hJ7 hw8 hu8
  have hl8 : (setB bs1 4 (beB 8 (IntKind.u64.wrap f.msg))).length = 24 + f.data.length := by rw [setB_len (by rw [beB_len]; omega), hl7]
  clear hJ7 hw8 hu8
  generalize hbs2 : setB bs1 4 (beB 8 (IntKind.u64.wrap f.msg)) = bs2 at *
  simp [hn4]
  rw [kseq_normal]
  -- the fragment
  simp [hn4, g1, g4, hJ8.2.1, hJ8.2.2.1]
  refine (pput_sp h8 b X bs2 12 4 (IntKind.u64.wrap f.frag) hJ8.1 (by omega) (by omega) (by omega)).mono ?_
  rintro r h9 ⟨rfl, hw9, hu9⟩
  have hJ9 := step _ _ _ _ hJ8 hw9 hu9
  have hl9 : (setB bs2 12 (beB 4 (IntKind.u64.wrap f.frag))).length = 24 + f.data.length := by rw [setB_len (by rw [beB_len]; omega), hl8]
  clear hJ8 hw9 hu9
  generalize hbs3 : setB bs2 12 (beB 4 (IntKind.u64.wrap f.frag)) = bs3 at *
  have hfin3 : bs3 = head16 f ++ List.replicate 8 0 ++ f.data := by
    have e1 := setB_head (A := [toB f.kind, flagB f.last]) (D := f.data) (m := 22) (l := beB 2 (IntKind.u64.wrap (f.data.length : Int))) (by rw [beB_len]; omega)
    rw [hbs0, show ([toB f.kind, flagB f.last] : List UInt8).length = 2 from rfl, hbs1, beB_len] at e1
    have e2 := setB_head (A := [toB f.kind, flagB f.last] ++ beB 2 (IntKind.u64.wrap (f.data.length : Int))) (D := f.data) (m := 20) (l := beB 8 (IntKind.u64.wrap f.msg)) (by rw [beB_len]; omega)
    rw [← e1, List.length_append, beB_len, show ([toB f.kind, flagB f.last] : List UInt8).length + 2 = 4 from rfl, hbs2, beB_len] at e2
    have e3 := setB_head (A := [toB f.kind, flagB f.last] ++ beB 2 (IntKind.u64.wrap (f.data.length : Int)) ++ beB 8 (IntKind.u64.wrap f.msg)) (D := f.data) (m := 12) (l := beB 4 (IntKind.u64.wrap f.frag)) (by rw [beB_len]; omega)
    rw [← e2, List.length_append, List.length_append, beB_len, beB_len, show ([toB f.kind, flagB f.last] : List UInt8).length + 2 + 8 = 12 from rfl, hbs3, beB_len] at e3
    exact e3
  simp [hn4]
  rw [kseq_normal, AW_seq]
  -- the checksum
  refine AW_region_d [.plain, .load [0], .plain, .plain, .eff [1], .eff []] (by kernel_rfl) (by kernel_rfl) ?_
  simp [hn4, g1, g4, hJ9.2.1, hJ9.2.2.1]
  refine (pdig_sp h9 X bs3 hJ9.1.bs (by omega) (by omega)).mono ?_
  rintro r h10 ⟨rfl, rfl⟩
  simp [hn4, g1, g4, hJ9.2.1, hJ9.2.2.1]
  have hsel : digSel bs3 = head16 f ++ f.data := by
    unfold digSel
    rw [hfin3, List.append_assoc, List.take_left' (head16_len f), ← List.append_assoc, List.drop_left' (by simp [head16_len])]
  rw [hsel]
  refine (pput_sp h10 b X bs3 16 8 (digN (head16 f ++ f.data)) hJ9.1 (by omega) (by omega) (by omega)).mono ?_
  rintro r h11 ⟨rfl, hw11, hu11⟩
  have hJ11 := step _ _ _ _ hJ9 hw11 hu11
  clear hJ9 hu11
  have hfin4 : setB bs3 16 (beB 8 (digN (head16 f ++ f.data))) = encB f := by
    have e1 := setB_head (A := head16 f) (D := f.data) (m := 8) (l := beB 8 (digN (head16 f ++ f.data))) (by rw [beB_len]; omega)
    rw [← hfin3, head16_len, beB_len] at e1
    rw [e1]
    simp [encB]
  rw [hfin4] at hw11
  simp [hn4, g4, kseq_normal]
  rw [encO_ok he]
  refine ⟨X, ⟨rfl, he.symm⟩, hw11.bs, ⟨by have := hJ11.2.2.2.2; omega, hJ11.2.2.2.1⟩, fun c hc => ?_⟩
  rw [← hX] at hc; simp [blk] at hc; omega
end Go.Eng.L35
