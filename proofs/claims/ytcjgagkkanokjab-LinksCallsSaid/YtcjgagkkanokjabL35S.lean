/- Law 35: over; what Output gives. -/
import Derived.Test.YtcjgagkkanokjabL35R
namespace Go.Eng.L35
open Go.Proofs Go.Eng
/-- The wires that a frame goes over. -/
def wiresQ (q turn : Int) (ups : List Nat) : List Nat :=
  if ieq q 0 then ups.take 1 else if ieq q 1 then (ups.drop (turn.toNat % ups.length)).take 1 else ups
def turnQ (q turn : Int) : Int := if ieq q 0 then turn else if ieq q 1 then IntKind.i64.wrap (turn + 1) else turn
variable [O35]
theorem over_sp {h : AHeap} {p : Nat} {s : S} {v : V} {x : AV} {ups : List Nat} (hp : PL h p s v) (hx : Sl h 1 x (ints ups)) (hu : 0 < ups.length) (hu8 : ups.length ≤ 8) (ht : 0 ≤ s.turn ∧ s.turn ≤ 1000000) (hap : blk x ≠ some p) :
    Ca Try.prog 34 [.ptr p 0, x] h fun r h' => Sl h' 1 r (ints (wiresQ s.quality s.turn ups)) ∧ PL h' p { s with turn := turnQ s.quality s.turn } v ∧ Upd [p] h h' ∧ h'.next = h.next ∧ blk r = blk x := by
  refine ci Try.func34 rfl (by decide) ?_
  intro fr hn hg
  replace hn : fr.n = 36 := hn
  have h0 : fr.get 0 = some (.ptr p 0) := hg 0 (by simp)
  have h1 : fr.get 1 = some x := hg 1 (by simp)
  clear hg
  show AW _ _ _ _ _
  have hcl := hp.cells
  have hxlen : plen Try.prog 79 x = some (i64 (ups.length : Int)) := by have := hx.len sl79; simpa [ints] using this
  simp [hn, h0, hcl, kseq_normal]
  refine Br.mk (fun hb => ?_) (fun hb => ?_)
  · obtain ⟨w, hw, hws, hwb⟩ := hx.slice sl79 sz3 (lo := none) (hi := some (i64 1)) (i := 0) (j := 1) (by rfl) (by rfl) (by omega) (by simp [ints]; omega)
    simp [hn, h1, hw, kseq_normal]
    refine ⟨?_, ?_, Upd.refl _ _, hwb⟩
    · unfold wiresQ; rw [hb]; simpa [ints] using hws
    · unfold turnQ; rw [hb]; exact hp
  simp [hn, h0, hcl, hb, kseq_normal]
  refine Br.mk (fun hb1 => ?_) (fun hb1 => ?_)
  · obtain ⟨j, hj⟩ : ∃ j, j = s.turn.toNat % ups.length := ⟨_, rfl⟩
    have hjl : j < ups.length := by rw [hj]; exact Nat.mod_lt _ hu
    have hrem : s.turn.tmod (ups.length : Int) = (j : Int) := by
      have e1 : s.turn = ((s.turn.toNat : Nat) : Int) := (Int.toNat_of_nonneg ht.1).symm
      rw [e1, hj]; exact (Int.ofNat_tmod _ _).symm
    have hrm : ∀ a b : Operand, bin2 Try.prog .rem 3 a b (some (i64 s.turn)) (some (i64 (ups.length : Int))) = some (i64 (j : Int)) := fun a b => by rw [bin2_rem _ _ _ (by omega), hrem]
    obtain ⟨w, hw, hws, hwb⟩ := hx.slice sl79 sz3 (lo := some (i64 (j : Int))) (hi := some (i64 ((j + 1 : Nat) : Int))) (i := j) (j := j + 1) (by simp [bnd, nat?]) (by simp [bnd, nat?]; omega) (by omega) (by simp [ints]; omega)
    have hj1 : IntKind.i64.wrap ((j : Int) + 1) = (j : Int) + 1 := by rw [wrap_nat j (by omega)]; omega
    simp only [Int.natCast_add, Int.natCast_one] at hw
    simp [hn, h0, h1, hcl, hxlen, hrm, pst_turn, hj1, hw, kseq_normal]
    have hpl2 := hp.put { s with turn := IntKind.i64.wrap (s.turn + 1) }
    refine ⟨?_, ?_, Upd.set_p _ _ _, hwb⟩
    · unfold wiresQ; rw [hb, hb1]
      have : ints ((ups.drop (s.turn.toNat % ups.length)).take 1) = ((ints ups).drop j).take (j + 1 - j) := by
        rw [← hj, show j + 1 - j = 1 by omega]; simp [ints]
      simp only [if_true, Bool.false_eq_true, if_false]
      rw [this]
      exact Sl.keep hws (by simp) fun c hc _ => get_ne _ fun e => hap (by rw [← hwb, hc, e])
    · unfold turnQ; rw [hb, hb1]; exact hpl2
  · simp [hn, h1, kseq_normal]
    refine ⟨?_, ?_, Upd.refl _ _⟩
    · unfold wiresQ; rw [hb, hb1]; exact hx
    · unfold turnQ; rw [hb, hb1]; exact hp
end Go.Eng.L35
/- Law 35: what Output gives, and how it grows. -/
namespace Go.Eng.L35
open Go.Proofs Go.Eng
/-- An element of a slice: its cells as they lie. -/
theorem _root_.Go.Eng.Sl.raw {P : Program} {h : AHeap} {n : Nat} {x : AV} {l : List (List AV)} (hs : Sl h n x l) {t e : TypeId} (hu : P.underlying t = some (.slice e)) (hz : tsz P e = some n) (i : Nat) (hi : i < l.length) :
    ∃ b o ty cs wr, blk x = some b ∧ pindexAddr P t x (.int .i64 (i : Int)) = some (.ptr b o) ∧ b < h.next ∧ h.get b = .cells ty cs wr ∧ o + n ≤ cs.length ∧ (cs.drop o).take n = l[i] := by
  obtain ⟨h1, h2⟩ := hs
  rcases h2 with ⟨_, rfl⟩ | ⟨b, o, z, c, ty, cs, wr, rfl, h3, h4, h5, h6, _⟩ | ⟨rfl, _⟩
  · simp at hi
  case inr.inr => simp at hi
  have hc : (cs.drop (o + i * n)).take n = l[i] := by
    rw [take_drop_take cs o (i * n) n (l.length * n) (chunk_le hi), h6, flatten_at h1 i hi]
  have hle := chunk_le (n := n) hi
  exact ⟨b, o + i * n, ty, cs, wr, rfl, by simp [pindexAddr, nat?, hu, hz, hi], h3, h4, by omega, hc⟩
/-- What a part of an element reads as. -/
theorem sub_load {P : Program} {s : TypeId} {k n o f : Nat} {ty : TypeId} {cs row : List AV} {wr : Option Nat} (ha : isAggT P s = some true) (hz : tsz P s = some k) (hl : o + n ≤ cs.length) (hr : (cs.drop o).take n = row) (hf : f + k ≤ n) :
    atCells P s (.cells ty cs wr) (o + f) = some (.agg ((row.drop f).take k)) := by
  rw [atCells_agg ha hz, if_pos (by omega), ← hr]
  rw [List.drop_take, List.take_take, List.drop_drop, Nat.min_eq_left (by omega)]
theorem one_load {P : Program} {s : TypeId} {n o f : Nat} {ty : TypeId} {cs row : List AV} {wr : Option Nat} (ha : isAggT P s = some false) (hl : o + n ≤ cs.length) (hr : (cs.drop o).take n = row) (hf : f < n) :
    atCells P s (.cells ty cs wr) (o + f) = row[f]? := by
  rw [atCells_one ha, ← hr, List.getElem?_take, if_pos hf, List.getElem?_drop]
theorem flatten_set {α : Type} {n : Nat} : ∀ {l : List (List α)}, (∀ a ∈ l, a.length = n) → ∀ (i f : Nat) (v : α) (hi : i < l.length), f < n → l.flatten.set (i * n + f) v = (l.set i (l[i].set f v)).flatten
  | [], _, i, f, v, hi, _ => by simp at hi
  | a :: l, h, 0, f, v, _, hf => by
    have e := h a (by simp)
    simp only [Nat.zero_mul, Nat.zero_add, List.flatten_cons, List.set_cons_zero, List.getElem_cons_zero]
    rw [List.set_append_left _ _ (by omega)]
  | a :: l, h, i + 1, f, v, hi, hf => by
    have e := h a (by simp)
    simp only [List.flatten_cons, List.set_cons_succ, List.getElem_cons_succ]
    rw [List.set_append_right _ _ (by rw [Nat.succ_mul]; omega), ← flatten_set (fun b hb => h b (by simp [hb])) i f v (by simpa using hi) hf]
    congr 2
    rw [Nat.succ_mul]; omega
/-- A field of an element is written. -/
theorem _root_.Go.Eng.Gw.put {P : Program} {h : AHeap} {e : TypeId} {n : Nat} {x : AV} {l : List (List AV)} (hg : Gw h e n x l) {t : TypeId} (hu : P.underlying t = some (.slice e)) (hz : tsz P e = some n) (i : Nat) (hi : i < l.length) {s : TypeId} (hs : tsz P s = some 1) {f : Nat} (hf : f < n) {v : AV} (hv : v.cells = [v]) (ho : allOne v = true) :
    ∃ b o ob, blk x = some b ∧ pindexAddr P t x (.int .i64 (i : Int)) = some (.ptr b o) ∧ b < h.next ∧ stc P s (h.get b) (o + f) v = some ob ∧ Gw (h.set b ob) e n x (l.set i (l[i].set f v)) := by
  obtain ⟨h1, h2⟩ := hg
  rcases h2 with ⟨_, rfl⟩ | ⟨rfl, _⟩ | ⟨b, lb, cs, m, h3, rfl, h4, h5, h6, h7⟩
  · simp at hi
  · simp at hi
  have hle := chunk_le (n := n) hi
  have hml : l.length * n ≤ m * n := Nat.mul_le_mul_right n h6
  refine ⟨b, i * n, .cells e (cs.set (i * n + f) v) (some 0), rfl, by simp [pindexAddr, nat?, hu, hz, hi], h3, by rw [h4]; exact stc_one hs (by omega) hv ho, ?_, .inr (.inr ⟨b, lb, cs.set (i * n + f) v, m, by simpa using h3, by simp, by simp, by simpa using h5, by simpa using h6, ?_⟩)⟩
  · intro a ha
    obtain ⟨j, hj, rfl⟩ := List.getElem_of_mem ha
    rw [List.getElem_set]
    split
    · simp [h1 _ (List.getElem_mem hi)]
    · exact h1 _ (List.getElem_mem _)
  · rw [List.length_set, ← flatten_set h1 i f v hi hf, ← h7, List.take_set]
/-- Frames that go out: over which wire, and their bytes. -/
def orow (q : Int × AV × List UInt8) : List AV := [i64 q.1, q.2.1]
structure Outs (e n0 : Nat) (h : AHeap) (x : AV) (t : List (Int × AV × List UInt8)) : Prop where
  gw : Gw h e 2 x (t.map orow)
  el : ∀ q ∈ t, Bs h q.2.1 q.2.2 ∧ ∀ c, blk q.2.1 = some c → n0 ≤ c ∧ blk x ≠ some c
  fr : ∀ c, blk x = some c → n0 ≤ c
theorem Outs.keep {e n0 : Nat} {h h' : AHeap} {x : AV} {t : List (Int × AV × List UInt8)} (ho : Outs e n0 h x t) (hn : h.next ≤ h'.next) (hk : ∀ c, n0 ≤ c → c < h.next → h'.get c = h.get c) : Outs e n0 h' x t :=
  ⟨ho.gw.keep hn fun c hc hl => hk c (ho.fr c hc) hl, fun q hq => ⟨Sl.keep (ho.el q hq).1 hn fun c hc hl => hk c ((ho.el q hq).2 c hc).1 hl, (ho.el q hq).2⟩, ho.fr⟩
/-- A link's law stays when its blocks do. -/
def LK (L : AHeap → S → V → Prop) (p : Nat) : Prop := ∀ h h' s v, L h s v → h.next ≤ h'.next → (∀ c, c < h.next → v.W p c ∨ v.R c ∨ blk v.pt = some c → h'.get c = h.get c) → L h' s v
theorem PLK (p : Nat) : LK (fun h s v => PL h p s v) p := fun _ _ _ _ hp hn hk => hp.keep hn hk
theorem RLK (p : Nat) : LK (fun h s v => RL h p s v) p := fun _ _ _ _ hp hn hk => hp.keep hn hk
/-- What stands while Output runs: h0 the heap ahead of it. -/
structure OI (L : AHeap → S → V → Prop) (e : Nat) (h0 : AHeap) (p : Nat) (v : V) (h : AHeap) (s' : S) (v' : V) (x : AV) (l : List (Int × List UInt8)) : Prop where
  pl : L h s' v'
  ev : Ev h0 h p v v'
  low : ∀ c, v'.W p c ∨ v'.R c ∨ blk v'.pt = some c → c < h0.next
  out : ∃ t, Outs e h0.next h x t ∧ t.map (fun q => (q.1, q.2.2)) = l
theorem OI.step {L : AHeap → S → V → Prop} {e : Nat} {h0 h h' : AHeap} {p : Nat} {v v' v'' : V} {s' s'' : S} {x : AV} {l : List (Int × List UInt8)} (oi : OI L e h0 p v h s' v' x l) (hl : L h' s'' v'') (he : Ev h h' p v' v'')
    (hlow : ∀ c, v''.W p c ∨ v''.R c ∨ blk v''.pt = some c → c < h0.next) (hk : ∀ c, h0.next ≤ c → c < h.next → h'.get c = h.get c) : OI L e h0 p v h' s'' v'' x l := by
  obtain ⟨t, ht, hl2⟩ := oi.out
  exact ⟨hl, oi.ev.trans he, hlow, t, ht.keep he.next hk, hl2⟩
theorem OI.pres {L : AHeap → S → V → Prop} {e : Nat} {h0 h h' : AHeap} {p : Nat} {v v' : V} {s' : S} {x : AV} {l : List (Int × List UInt8)} (hL : LK L p) (oi : OI L e h0 p v h s' v' x l) (hp : Pres h h') : OI L e h0 p v h' s' v' x l :=
  oi.step (hL _ _ _ _ oi.pl hp.1 fun c hc _ => hp.2 c hc) (hp.ev p v') oi.low fun c _ hc => hp.2 c hc
/-- A slice beside the one that grows. -/
structure Bes (n : Nat) (h : AHeap) (x y : AV) (l : List (List AV)) : Prop where
  sl : Sl h n y l
  ne : ∀ c, blk y = some c → blk x ≠ some c
theorem Bes.pres {n : Nat} {h h' : AHeap} {x y : AV} {l : List (List AV)} (hb : Bes n h x y l) (hp : Pres h h') : Bes n h' x y l := ⟨hb.sl.pres hp, hb.ne⟩
theorem Bes.grown {n : Nat} {h h' : AHeap} {x x' y : AV} {l : List (List AV)} (hb : Bes n h x y l) (hg : Grown h x h' x') : Bes n h' x' y l :=
  ⟨Sl.keep hb.sl hg.next fun c hc hl => hg.keep c hl (hb.ne c hc), fun c hc e => by
    rcases hg.new c e with e1 | e1
    · exact hb.ne c hc e1
    · have := hb.sl.blk_lt hc; omega⟩
/-- One frame more. -/
theorem OI.app {L : AHeap → S → V → Prop} {e : Nat} {h0 h : AHeap} {p : Nat} {v v' : V} {s' : S} {x y : AV} {l : List (Int × List UInt8)} {w : Int} {b : List UInt8} (hL : LK L p) (oi : OI L e h0 p v h s' v' x l) (hy : Bes 1 h x y (byt b)) (hyf : ∀ c, blk y = some c → h0.next ≤ c)
    {t bytes : Nat} {z : AV} (hu : Try.prog.underlying t = some (.slice e)) (hz : tsz Try.prog e = some 2) (hby : tbytes Try.prog e = some bytes) (hz0 : tzero Try.prog e = some z) (zl : z.cells.length = 2) (hb : bytes ≤ 1000) (hl : l.length ≤ 1000000) :
    ∃ x' h', aappend Try.prog (h.new (.cells e [i64 w, y] (some 0))) [t, t] [x, .sl h.next 0 0 1 (.at_ 1)] = some (x', h') ∧ OI L e h0 p v h' s' v' x' (l ++ [(w, b)]) ∧ Grown h x h' x' := by
  obtain ⟨tt, ho, hm⟩ := oi.out
  have hyc := (Sl.one hy.sl).1
  have hlen : (tt.map orow).length ≤ 1000000 := by rw [← hm] at hl; simpa using hl
  obtain ⟨x', h', h1, h2, h3⟩ := app1 (h := h) (t := t) (v := .agg [i64 w, y]) ho.gw hu hz hby hz0 zl (by omega) (by rfl) hb hlen
  have hh : ∀ c, c < h0.next → h'.get c = h.get c := fun c hc => h3.keep c (Nat.lt_of_lt_of_le hc oi.ev.next) fun e => by have := ho.fr c e; omega
  refine ⟨x', h', h1, ⟨hL _ _ _ _ oi.pl h3.next fun c _ hc => hh c (oi.low c hc), ⟨Nat.le_trans oi.ev.next h3.next, fun c hc hw hp => (hh c hc).trans (oi.ev.keep c hc hw hp), oi.ev.w, oi.ev.r, oi.ev.pt⟩, oi.low, tt ++ [(w, y, b)], ⟨?_, fun q hq => ?_, fun c hc => ?_⟩, by simp [hm]⟩, h3⟩
  · rw [List.map_append]; exact h2
  · rcases List.mem_append.1 hq with hq | hq
    · have k := ho.el q hq
      have kb : Bes 1 h x q.2.1 (byt q.2.2) := ⟨k.1, fun c hc => (k.2 c hc).2⟩
      have kb' := kb.grown h3
      exact ⟨kb'.sl, fun c hc => ⟨(k.2 c hc).1, kb'.ne c hc⟩⟩
    · simp at hq; subst hq
      have kb' := hy.grown h3
      exact ⟨kb'.sl, fun c hc => ⟨hyf c hc, kb'.ne c hc⟩⟩
  · rcases h3.new c hc with e1 | e1
    · exact ho.fr c e1
    · exact Nat.le_trans oi.ev.next e1
end Go.Eng.L35
