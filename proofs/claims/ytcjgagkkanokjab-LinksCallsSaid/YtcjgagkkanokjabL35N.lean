/- Law 35: writing the fields of a link; acknowledge of the program. -/
import Derived.Test.YtcjgagkkanokjabL35L
namespace Go.Eng.L35
open Go.Proofs Go.Eng
section
variable (s : S) (v : V)
theorem pst_clock (n : Int) : stc Try.prog 2 (.cells 56 (pcells s v) (some 0)) 4 (i64 n) = some (.cells 56 (pcells { s with clock := n } v) (some 0)) := stc_one sz2 (by simp) rfl rfl
theorem pst_sent (n : Int) : stc Try.prog 2 (.cells 56 (pcells s v) (some 0)) 6 (i64 n) = some (.cells 56 (pcells { s with sent := n } v) (some 0)) := stc_one sz2 (by simp) rfl rfl
theorem pst_done (n : Int) : stc Try.prog 2 (.cells 56 (pcells s v) (some 0)) 7 (i64 n) = some (.cells 56 (pcells { s with done := n } v) (some 0)) := stc_one sz2 (by simp) rfl rfl
theorem pst_repeats (n : Int) : stc Try.prog 3 (.cells 56 (pcells s v) (some 0)) 8 (i64 n) = some (.cells 56 (pcells { s with repeats := n } v) (some 0)) := stc_one sz3 (by simp) rfl rfl
theorem pst_turn (n : Int) : stc Try.prog 3 (.cells 56 (pcells s v) (some 0)) 9 (i64 n) = some (.cells 56 (pcells { s with turn := n } v) (some 0)) := stc_one sz3 (by simp) rfl rfl
theorem pst_broke (b : Bool) : stc Try.prog 4 (.cells 56 (pcells s v) (some 0)) 10 (.bool b) = some (.cells 56 (pcells { s with broke := b } v) (some 0)) := stc_one sz4 (by simp) rfl rfl
theorem pst_msg (n : Int) : stc Try.prog 2 (.cells 56 (pcells s v) (some 0)) 13 (i64 n) = some (.cells 56 (pcells { s with msg := n } v) (some 0)) := stc_one sz2 (by simp) rfl rfl
theorem pst_frag (n : Int) : stc Try.prog 3 (.cells 56 (pcells s v) (some 0)) 14 (i64 n) = some (.cells 56 (pcells { s with frag := n } v) (some 0)) := stc_one sz3 (by simp) rfl rfl
theorem pst_un {x : AV} (h1 : x.cells = [x]) (h2 : allOne x = true) : stc Try.prog 53 (.cells 56 (pcells s v) (some 0)) 5 x = some (.cells 56 (pcells s { v with un := x }) (some 0)) := stc_one sz53 (by simp) h1 h2
theorem pst_pt {x : AV} (h1 : x.cells = [x]) (h2 : allOne x = true) : stc Try.prog 34 (.cells 56 (pcells s v) (some 0)) 16 x = some (.cells 56 (pcells s { v with pt := x }) (some 0)) := stc_one sz34 (by simp) h1 h2
theorem pst_ak {x : AV} (h1 : x.cells = [x]) (h2 : allOne x = true) : stc Try.prog 54 (.cells 56 (pcells s v) (some 0)) 17 x = some (.cells 56 (pcells s { v with ak := x }) (some 0)) := stc_one sz54 (by simp) h1 h2
theorem rst_clock (n : Int) : stc Try.prog 2 (.cells 60 (rcells s v) (some 0)) 4 (i64 n) = some (.cells 60 (rcells { s with clock := n } v) (some 0)) := stc_one sz2 (by simp) rfl rfl
theorem rst_sent (n : Int) : stc Try.prog 2 (.cells 60 (rcells s v) (some 0)) 6 (i64 n) = some (.cells 60 (rcells { s with sent := n } v) (some 0)) := stc_one sz2 (by simp) rfl rfl
theorem rst_done (n : Int) : stc Try.prog 2 (.cells 60 (rcells s v) (some 0)) 7 (i64 n) = some (.cells 60 (rcells { s with done := n } v) (some 0)) := stc_one sz2 (by simp) rfl rfl
theorem rst_repeats (n : Int) : stc Try.prog 3 (.cells 60 (rcells s v) (some 0)) 8 (i64 n) = some (.cells 60 (rcells { s with repeats := n } v) (some 0)) := stc_one sz3 (by simp) rfl rfl
theorem rst_turn (n : Int) : stc Try.prog 3 (.cells 60 (rcells s v) (some 0)) 9 (i64 n) = some (.cells 60 (rcells { s with turn := n } v) (some 0)) := stc_one sz3 (by simp) rfl rfl
theorem rst_broke (b : Bool) : stc Try.prog 4 (.cells 60 (rcells s v) (some 0)) 10 (.bool b) = some (.cells 60 (rcells { s with broke := b } v) (some 0)) := stc_one sz4 (by simp) rfl rfl
theorem rst_msg (n : Int) : stc Try.prog 2 (.cells 60 (rcells s v) (some 0)) 11 (i64 n) = some (.cells 60 (rcells { s with msg := n } v) (some 0)) := stc_one sz2 (by simp) rfl rfl
theorem rst_frag (n : Int) : stc Try.prog 3 (.cells 60 (rcells s v) (some 0)) 12 (i64 n) = some (.cells 60 (rcells { s with frag := n } v) (some 0)) := stc_one sz3 (by simp) rfl rfl
theorem rst_un {x : AV} (h1 : x.cells = [x]) (h2 : allOne x = true) : stc Try.prog 57 (.cells 60 (rcells s v) (some 0)) 5 x = some (.cells 60 (rcells s { v with un := x }) (some 0)) := stc_one sz57 (by simp) h1 h2
theorem rst_pt {x : AV} (h1 : x.cells = [x]) (h2 : allOne x = true) : stc Try.prog 34 (.cells 60 (rcells s v) (some 0)) 13 x = some (.cells 60 (rcells s { v with pt := x }) (some 0)) := stc_one sz34 (by simp) h1 h2
theorem rst_ak {x : AV} (h1 : x.cells = [x]) (h2 : allOne x = true) : stc Try.prog 58 (.cells 60 (rcells s v) (some 0)) 14 x = some (.cells 60 (rcells s { v with ak := x }) (some 0)) := stc_one sz58 (by simp) h1 h2
end
/-- No block of a link's parts is the link's own. -/
structure Away (h : AHeap) (p : Nat) (v : V) : Prop where
  bu : p ≠ v.bu
  un : blk v.un ≠ some p
  ak : blk v.ak ≠ some p
  pt : blk v.pt ≠ some p
  rows : ¬ v.R p
theorem PL.away {h : AHeap} {p : Nat} {s : S} {v : V} (hp : PL h p s v) : Away h p v := by
  refine ⟨?_, fun e => ?_, fun e => ?_, fun e => ?_, fun e => (hp.sep p e).1 (.inl rfl)⟩
  · obtain ⟨_, h1⟩ := hp.up.ty; exact ne_ty hp.cells h1 (by decide)
  · obtain ⟨_, h1⟩ := Gw.ty hp.un e; exact ne_ty hp.cells h1 (by decide) rfl
  · obtain ⟨_, h1⟩ := Gw.ty hp.ak e; exact ne_ty hp.cells h1 (by decide) rfl
  · obtain ⟨_, h1⟩ := Gw.ty hp.pt.gw e; exact ne_ty hp.cells h1 (by decide) rfl
theorem RL.away {h : AHeap} {p : Nat} {s : S} {v : V} (hp : RL h p s v) : Away h p v := by
  refine ⟨?_, fun e => ?_, fun e => ?_, fun e => hp.sep p (.inr e) (.inl rfl), fun e => hp.sep p (.inl e) (.inl rfl)⟩
  · obtain ⟨_, h1⟩ := hp.up.ty; exact ne_ty hp.cells h1 (by decide)
  · obtain ⟨_, h1⟩ := Gw.ty hp.un e; exact ne_ty hp.cells h1 (by decide) rfl
  · obtain ⟨_, h1⟩ := Gw.ty hp.ak e; exact ne_ty hp.cells h1 (by decide) rfl
/-- A field that is no slice is written. -/
theorem PL.put {h : AHeap} {p : Nat} {s : S} {v : V} (hp : PL h p s v) (s' : S) (e1 : s'.up = s.up := by rfl) (e2 : s'.units = s.units := by rfl) (e3 : s'.part = s.part := by rfl) (e4 : s'.acks = s.acks := by rfl) : PL (h.set p (.cells 56 (pcells s' v) (some 0))) p s' v := by
  have a := hp.away
  refine ⟨by simp, by simpa using hp.lt, e1 ▸ hp.up.keep (by simp) (get_ne _ a.bu), hp.un.keep (by simp) fun c hc _ => get_ne _ fun e => a.un (e ▸ hc), e2 ▸ hp.us.keep (by simp) fun c hc _ => get_ne _ fun e => a.rows (e ▸ hc), e3 ▸ hp.pt.keep (by simp) fun c hc _ => get_ne _ fun e => a.pt (e ▸ hc), e4 ▸ hp.ak.keep (by simp) fun c hc _ => get_ne _ fun e => a.ak (e ▸ hc), hp.sep⟩
theorem RL.put {h : AHeap} {p : Nat} {s : S} {v : V} (hp : RL h p s v) (s' : S) (e1 : s'.up = s.up := by rfl) (e2 : s'.units = s.units := by rfl) (e3 : s'.part = s.part := by rfl) (e4 : s'.acks = s.acks := by rfl) : RL (h.set p (.cells 60 (rcells s' v) (some 0))) p s' v := by
  have a := hp.away
  refine ⟨by simp, by simpa using hp.lt, e1 ▸ hp.up.keep (by simp) (get_ne _ a.bu), hp.un.keep (by simp) fun c hc _ => get_ne _ fun e => a.un (e ▸ hc), e2 ▸ hp.us.keep (by simp) fun c hc _ => get_ne _ fun e => a.rows (e ▸ hc), e3 ▸ Sl.keep hp.pt (by simp) fun c hc _ => get_ne _ fun e => a.pt (e ▸ hc), e4 ▸ hp.ak.keep (by simp) fun c hc _ => get_ne _ fun e => a.ak (e ▸ hc), hp.sep⟩
/-- Only the link's own block is written, and new ones. -/
theorem PL.of_p {h h' : AHeap} {p : Nat} {s : S} {v : V} (hp : PL h p s v) (hu : Upd [p] h h') {s' : S} (hc : h'.get p = .cells 56 (pcells s' v) (some 0)) (e1 : s'.up = s.up := by rfl) (e2 : s'.units = s.units := by rfl) (e3 : s'.part = s.part := by rfl) (e4 : s'.acks = s.acks := by rfl) : PL h' p s' v := by
  have a := hp.away
  have k : ∀ c, c < h.next → c ≠ p → h'.get c = h.get c := fun c hc hne => hu.2 c hc (by simpa using hne)
  refine ⟨hc, Nat.lt_of_lt_of_le hp.lt hu.1, e1 ▸ hp.up.keep hu.1 (k _ hp.up.lt (Ne.symm a.bu)), hp.un.keep hu.1 fun c hc hl => k c hl fun e => a.un (e ▸ hc), e2 ▸ hp.us.keep hu.1 fun c hc hl => k c hl fun e => a.rows (e ▸ hc), e3 ▸ hp.pt.keep hu.1 fun c hc hl => k c hl fun e => a.pt (e ▸ hc), e4 ▸ hp.ak.keep hu.1 fun c hc hl => k c hl fun e => a.ak (e ▸ hc), hp.sep⟩
theorem RL.of_p {h h' : AHeap} {p : Nat} {s : S} {v : V} (hp : RL h p s v) (hu : Upd [p] h h') {s' : S} (hc : h'.get p = .cells 60 (rcells s' v) (some 0)) (e1 : s'.up = s.up := by rfl) (e2 : s'.units = s.units := by rfl) (e3 : s'.part = s.part := by rfl) (e4 : s'.acks = s.acks := by rfl) : RL h' p s' v := by
  have a := hp.away
  have k : ∀ c, c < h.next → c ≠ p → h'.get c = h.get c := fun c hc hne => hu.2 c hc (by simpa using hne)
  refine ⟨hc, Nat.lt_of_lt_of_le hp.lt hu.1, e1 ▸ hp.up.keep hu.1 (k _ hp.up.lt (Ne.symm a.bu)), hp.un.keep hu.1 fun c hc hl => k c hl fun e => a.un (e ▸ hc), e2 ▸ hp.us.keep hu.1 fun c hc hl => k c hl fun e => a.rows (e ▸ hc), e3 ▸ Sl.keep hp.pt hu.1 fun c hc hl => k c hl fun e => a.pt (e ▸ hc), e4 ▸ hp.ak.keep hu.1 fun c hc hl => k c hl fun e => a.ak (e ▸ hc), hp.sep⟩
theorem _root_.Go.Eng.Upd.trans {W : List Nat} {a b c : AHeap} (x : Upd W a b) (y : Upd W b c) : Upd W a c := ⟨Nat.le_trans x.1 y.1, fun k hk hw => (y.2 k (Nat.lt_of_lt_of_le hk x.1) hw).trans (x.2 k hk hw)⟩
theorem _root_.Go.Eng.Upd.set_p (h : AHeap) (p : Nat) (ob : AObj) : Upd [p] h (h.set p ob) := ⟨by simp, fun c hc hne => get_ne ob fun e => hne (by simp [e])⟩
theorem _root_.Go.Eng.Upd.new_p {h h' : AHeap} {p : Nat} (hu : Upd [p] h h') (ob : AObj) : Upd [p] h (h'.new ob) := hu.trans (((Pres.refl h').new ob).upd [p])
/-- What a call on a link does to the heap: v, v' the link's places ahead of it and behind it. -/
structure Ev (h h' : AHeap) (p : Nat) (v v' : V) : Prop where
  next : h.next ≤ h'.next
  keep : ∀ c, c < h.next → ¬ v.W p c → blk v.pt ≠ some c → h'.get c = h.get c
  w : ∀ c, v'.W p c → v.W p c ∨ h.next ≤ c
  r : ∀ c, v'.R c → v.R c ∨ h.next ≤ c
  pt : ∀ c, blk v'.pt = some c → blk v.pt = some c ∨ h.next ≤ c
theorem Ev.refl (h : AHeap) (p : Nat) (v : V) : Ev h h p v v := ⟨Nat.le_refl _, fun _ _ _ _ => rfl, fun _ h => .inl h, fun _ h => .inl h, fun _ h => .inl h⟩
theorem Ev.trans {h h1 h2 : AHeap} {p : Nat} {v v1 v2 : V} (a : Ev h h1 p v v1) (b : Ev h1 h2 p v1 v2) : Ev h h2 p v v2 := by
  have hn := a.next
  refine ⟨Nat.le_trans a.next b.next, fun c hc hw hp => (b.keep c (by omega) (fun hw1 => ?_) (fun hp1 => ?_)).trans (a.keep c hc hw hp), fun c hc => ?_, fun c hc => ?_, fun c hc => ?_⟩
  · rcases a.w c hw1 with e | e
    · exact hw e
    · omega
  · rcases a.pt c hp1 with e | e
    · exact hp e
    · omega
  · rcases b.w c hc with e | e
    · exact a.w c e
    · exact .inr (by omega)
  · rcases b.r c hc with e | e
    · exact a.r c e
    · exact .inr (by omega)
  · rcases b.pt c hc with e | e
    · exact a.pt c e
    · exact .inr (by omega)
theorem _root_.Go.Eng.Pres.ev {h h' : AHeap} (hp : Pres h h') (p : Nat) (v : V) : Ev h h' p v v := ⟨hp.1, fun c hc _ _ => hp.2 c hc, fun _ h => .inl h, fun _ h => .inl h, fun _ h => .inl h⟩
theorem Ev.set (h : AHeap) (p : Nat) (v : V) (ob : AObj) : Ev h (h.set p ob) p v v := ⟨by simp, fun c hc hw _ => get_ne ob fun e => hw (.inl e.symm), fun _ h => .inl h, fun _ h => .inl h, fun _ h => .inl h⟩
theorem _root_.Go.Eng.Upd.ev {h h' : AHeap} {p : Nat} (hu : Upd [p] h h') (v : V) : Ev h h' p v v := ⟨hu.1, fun c hc hw _ => hu.2 c hc fun e => hw (.inl (by simpa using e)), fun _ h => .inl h, fun _ h => .inl h, fun _ h => .inl h⟩
/-- The units are written. -/
theorem PL.of_un {h h' : AHeap} {p : Nat} {s : S} {v : V} (hp : PL h p s v) {x : AV} {rows' : List (List AV)} {s' : S} (hn : h.next ≤ h'.next) (hk : ∀ c, c < h.next → c ≠ p → blk v.un ≠ some c → h'.get c = h.get c)
    (hc : h'.get p = .cells 56 (pcells s' { v with un := x }) (some 0)) (hg : Gw h' 78 6 x rows') (hu : URs h' s'.units rows') (hx : ∀ c, blk x = some c → blk v.un = some c ∨ h.next ≤ c)
    (hr : ∀ row ∈ rows', ∀ c, rowB row = some c → v.R c ∨ (h.next ≤ c ∧ blk x ≠ some c)) (e1 : s'.up = s.up := by rfl) (e3 : s'.part = s.part := by rfl) (e4 : s'.acks = s.acks := by rfl) :
    PL h' p s' { v with un := x, rows := rows' } ∧ Ev h h' p v { v with un := x, rows := rows' } := by
  have a := hp.away
  obtain ⟨_, tu⟩ := hp.up.ty
  have kb : ∀ c, blk v.un = some c → c ≠ v.bu ∧ blk v.ak ≠ some c ∧ blk v.pt ≠ some c := fun c hc => by
    obtain ⟨_, t1⟩ := Gw.ty hp.un hc
    refine ⟨ne_ty t1 tu (by decide), fun e => ?_, fun e => ?_⟩
    · obtain ⟨_, t2⟩ := Gw.ty hp.ak e; exact ne_ty t1 t2 (by decide) rfl
    · obtain ⟨_, t2⟩ := Gw.ty hp.pt.gw e; exact ne_ty t1 t2 (by decide) rfl
  refine ⟨⟨hc, Nat.lt_of_lt_of_le hp.lt hn, e1 ▸ hp.up.keep hn (hk _ hp.up.lt (Ne.symm a.bu) fun e => (kb _ e).1 rfl), hg, hu, e3 ▸ hp.pt.keep hn fun c hc hl => hk c hl (fun e => a.pt (e ▸ hc)) fun e => (kb c e).2.2 hc, e4 ▸ hp.ak.keep hn fun c hc hl => hk c hl (fun e => a.ak (e ▸ hc)) fun e => (kb c e).2.1 hc, fun c hcr => ?_⟩, ⟨hn, fun c hl hw hpt => hk c hl (fun e => hw (.inl e)) fun e => hw (.inr (.inr (.inl e))), fun c hw => ?_, fun c hcr => ?_, fun c h => .inl h⟩⟩
  · obtain ⟨row, hm, hrc⟩ := hcr
    rcases hr row hm c hrc with e | ⟨e, e2⟩
    · obtain ⟨h1, h2⟩ := hp.sep c e
      have hlt := hp.us.lt c e
      refine ⟨?_, h2⟩
      rintro (hw | hw | hw | hw)
      · exact h1 (.inl hw)
      · exact h1 (.inr (.inl hw))
      · rcases hx c hw with e3 | e3
        · exact h1 (.inr (.inr (.inl e3)))
        · omega
      · exact h1 (.inr (.inr (.inr hw)))
    · refine ⟨?_, fun e3 => by have := hp.pt.blk_lt e3; omega⟩
      rintro (hw | hw | hw | hw)
      · have := hp.lt; omega
      · have := hp.up.lt; simp only at hw; omega
      · exact e2 hw
      · have := hp.ak.blk_lt hw; omega
  · rcases hw with hw | hw | hw | hw
    · exact .inl (.inl hw)
    · exact .inl (.inr (.inl hw))
    · rcases hx c hw with e | e
      · exact .inl (.inr (.inr (.inl e)))
      · exact .inr e
    · exact .inl (.inr (.inr (.inr hw)))
  · obtain ⟨row, hm, hrc⟩ := hcr
    rcases hr row hm c hrc with e | e
    · exact .inl e
    · exact .inr e.1
/-- The units are written. -/
theorem RL.of_un {h h' : AHeap} {p : Nat} {s : S} {v : V} (hp : RL h p s v) {x : AV} {rows' : List (List AV)} {s' : S} (hn : h.next ≤ h'.next) (hk : ∀ c, c < h.next → c ≠ p → blk v.un ≠ some c → h'.get c = h.get c)
    (hc : h'.get p = .cells 60 (rcells s' { v with un := x }) (some 0)) (hg : Gw h' 94 6 x rows') (hu : URs h' s'.units rows') (hx : ∀ c, blk x = some c → blk v.un = some c ∨ h.next ≤ c)
    (hr : ∀ row ∈ rows', ∀ c, rowB row = some c → v.R c ∨ (h.next ≤ c ∧ blk x ≠ some c)) (e1 : s'.up = s.up := by rfl) (e3 : s'.part = s.part := by rfl) (e4 : s'.acks = s.acks := by rfl) :
    RL h' p s' { v with un := x, rows := rows' } ∧ Ev h h' p v { v with un := x, rows := rows' } := by
  have a := hp.away
  obtain ⟨_, tu⟩ := hp.up.ty
  have kb : ∀ c, blk v.un = some c → c ≠ v.bu ∧ blk v.ak ≠ some c ∧ blk v.pt ≠ some c := fun c hc => by
    obtain ⟨_, t1⟩ := Gw.ty hp.un hc
    refine ⟨ne_ty t1 tu (by decide), fun e => ?_, fun e => hp.sep c (.inr e) (.inr (.inr (.inl hc)))⟩
    obtain ⟨_, t2⟩ := Gw.ty hp.ak e; exact ne_ty t1 t2 (by decide) rfl
  refine ⟨⟨hc, Nat.lt_of_lt_of_le hp.lt hn, e1 ▸ hp.up.keep hn (hk _ hp.up.lt (Ne.symm a.bu) fun e => (kb _ e).1 rfl), hg, hu, e3 ▸ Sl.keep hp.pt hn fun c hc hl => hk c hl (fun e => a.pt (e ▸ hc)) fun e => (kb c e).2.2 hc, e4 ▸ hp.ak.keep hn fun c hc hl => hk c hl (fun e => a.ak (e ▸ hc)) fun e => (kb c e).2.1 hc, fun c hcr => ?_⟩, ⟨hn, fun c hl hw hpt => hk c hl (fun e => hw (.inl e)) fun e => hw (.inr (.inr (.inl e))), fun c hw => ?_, fun c hcr => ?_, fun c h => .inl h⟩⟩
  · have old : ∀ c, c < h.next → ¬ v.W p c → ¬ ({ v with un := x, rows := rows' } : V).W p c := fun c hlt h1 => by
      rintro (hw | hw | hw | hw)
      · exact h1 (.inl hw)
      · exact h1 (.inr (.inl hw))
      · rcases hx c hw with e3 | e3
        · exact h1 (.inr (.inr (.inl e3)))
        · omega
      · exact h1 (.inr (.inr (.inr hw)))
    rcases hcr with hcr | hcr
    · obtain ⟨row, hm, hrc⟩ := hcr
      rcases hr row hm c hrc with e | ⟨e, e2⟩
      · exact old c (hp.us.lt c e) (hp.sep c (.inl e))
      · rintro (hw | hw | hw | hw)
        · have := hp.lt; omega
        · have := hp.up.lt; simp only at hw; omega
        · exact e2 hw
        · have := hp.ak.blk_lt hw; omega
    · exact old c (Sl.blk_lt hp.pt hcr) (hp.sep c (.inr hcr))
  · rcases hw with hw | hw | hw | hw
    · exact .inl (.inl hw)
    · exact .inl (.inr (.inl hw))
    · rcases hx c hw with e | e
      · exact .inl (.inr (.inr (.inl e)))
      · exact .inr e
    · exact .inl (.inr (.inr (.inr hw)))
  · obtain ⟨row, hm, hrc⟩ := hcr
    rcases hr row hm c hrc with e | e
    · exact .inl e
    · exact .inr e.1
theorem URs.findIdx {h : AHeap} {f : List AV → Bool} {g : U → Bool} (hfg : ∀ u row, UR h u row → f row = g u) : ∀ {us rows}, URs h us rows → rows.findIdx? f = us.findIdx? g
  | _, _, .nil => rfl
  | _, _, .cons hu r => by rw [List.findIdx?_cons, List.findIdx?_cons, hfg _ _ hu, URs.findIdx hfg r]
/-- Does an acknowledgment name what is behind a unit? -/
def matchU (m k : Int) (u : U) : Bool := if u.last then ieq m (IntKind.i64.wrap (u.msg + 1)) && ieq k 0 else ieq m u.msg && ieq k (IntKind.i64.wrap (u.frag + 1))
def matchR (m k : Int) (row : List AV) : Bool := match row[1]?, row[2]?, row[3]? with
  | some (AV.bool l), some (AV.int _ a), some (AV.int _ b) => if l then ieq m (IntKind.i64.wrap (a + 1)) && ieq k 0 else ieq m a && ieq k (IntKind.i64.wrap (b + 1))
  | _, _, _ => false
theorem UR.matches {h : AHeap} (m k : Int) (u : U) (row : List AV) (hu : UR h u row) : matchR m k row = matchU m k u := by obtain ⟨d, rfl, _⟩ := hu; rfl
variable [O35]
theorem cb55_sp {h : AHeap} {u : U} {d d2 : AV} {f : Fm} {b : Nat} (hd : Bs h d u.data) (hb : h.get b = .cells 52 (f.cells d2) (some 0)) (hlt : b < h.next) : Ca Try.prog 55 [.agg (urow u d), .ptr b 0] h fun r h' => r = .bool (matchU f.msg f.frag u) ∧ Pres h h' := by
  refine ci Try.func55 rfl (by decide) ?_
  intro fr hn hg
  replace hn : fr.n = 34 := hn
  have h0 : fr.get 0 = some (.agg (urow u d)) := hg 0 (by simp)
  have h1 : fr.get 1 = some (.ptr b 0) := hg 1 (by simp)
  clear hg
  show AW _ _ _ _ _
  obtain ⟨_, hd2, _⟩ := hd.one
  have hp : Pres h (h.new (.cells 78 (urow u d) (some 0))) := (Pres.refl h).new _
  have hne : (h.next = b) = False := eq_false (by omega)
  simp [hn, h0, h1, hd2, kseq_normal, hne, hb]
  repeat' (first | refine Br.mk (fun hb => ?_) (fun hb => ?_) | simp [*, matchU, kseq_normal])
/-- What units say of the last whole message. -/
def doneF (d : Int) (us : List U) : Int := us.foldl (fun d u => if u.last then u.msg else d) d
def ackS (s : S) (n : Nat) : S := { s with done := doneF s.done (s.units.take n), units := s.units.drop n, repeats := 0 }
def ackP (s : S) (m k : Int) : S := match s.units.findIdx? (matchU m k) with
  | some i => match s.units[i]? with
    | some u => if ilt u.at_ 0 then s else ackS s (i + 1)
    | none => s
  | none => s
end Go.Eng.L35
/- Law 35: acknowledge of the program. -/
namespace Go.Eng.L35
open Go.Proofs Go.Eng
theorem doneF_succ {us : List U} {k : Nat} (d : Int) (hk : k < us.length) : doneF d (us.take (k + 1)) = if us[k].last = true then us[k].msg else doneF d (us.take k) := by
  unfold doneF
  rw [foldl_take _ _ _ hk]
def idxO : Option Nat → Int
  | some i => (i : Int)
  | none => -1
variable [O35]
theorem packnow_sp {h : AHeap} {p : Nat} {s : S} {v : V} {f : Fm} {d : AV} (hp : PL h p s v) (hd : Bs h d f.data) (hl : s.units.length ≤ 100000) :
    Ca Try.prog 40 [.ptr p 0, .agg (f.cells d)] h fun r h' => r = .tuple [] ∧ ∃ v', PL h' p (ackP s f.msg f.frag) v' ∧ Ev h h' p v v' := by
  refine ci Try.func40 rfl (by decide) ?_
  intro fr hn hg
  replace hn : fr.n = 61 := hn
  have h0 : fr.get 0 = some (.ptr p 0) := hg 0 (by simp)
  have h1 : fr.get 1 = some (.agg (f.cells d)) := hg 1 (by simp)
  clear hg
  show AW _ _ _ _ _
  obtain ⟨_, hd2, _⟩ := hd.one
  have hp1 : Pres h (h.new (.cells 52 (f.cells d) (some 0))) := (Pres.refl h).new _
  have hb1 : (h.new (.cells 52 (f.cells d) (some 0))).get h.next = .cells 52 (f.cells d) (some 0) := by simp
  have hn1 : (h.new (.cells 52 (f.cells d) (some 0))).next = h.next + 1 := by simp
  simp [hn, h0, h1, hd2]
  rw [kseq_normal]
  have hpl := hp.pres hp1
  generalize (h.new (.cells 52 (f.cells d) (some 0))) = h1' at *
  have hul := hpl.us.length
  simp [hn, h0, hpl.cells]
  refine (index_sp hpl.un.sl (by omega) 55 [.ptr h.next 0] (matchR f.msg f.frag) (by kernel_rfl) fun h2 row hm hpr => ?_).mono ?_
  · obtain ⟨u, _, hur⟩ := hpl.us.mem row hm
    rw [UR.matches f.msg f.frag u row hur]
    obtain ⟨d', rfl, hd'⟩ := hur
    exact cb55_sp (hd'.pres hpr) ((hpr.2 _ (by omega)).trans hb1) (by have := hpr.1; omega)
  rintro r h2 ⟨rfl, hp2⟩
  have hpp := hp1.trans hp2
  have hpl2 := hp.pres hpp
  have hc2 := hpl2.cells
  have hun2 := hpl2.un.sl
  have hidx : idxF (matchR f.msg f.frag) v.rows = idxO (s.units.findIdx? (matchU f.msg f.frag)) := by
    unfold idxF idxO
    rw [URs.findIdx (fun u row hu => UR.matches f.msg f.frag u row hu) hpl.us]
    cases s.units.findIdx? (matchU f.msg f.frag) <;> rfl
  rw [hidx]
  have stay : ackP s f.msg f.frag = s → ∃ v', PL h2 p (ackP s f.msg f.frag) v' ∧ Ev h h2 p v v' := fun e => ⟨v, by rw [e]; exact hpl2, hpp.ev p v⟩
  clear hidx hb1 hpl hp1 hp2
  cases hf : s.units.findIdx? (matchU f.msg f.frag) with
  | none =>
    have e : ackP s f.msg f.frag = s := by unfold ackP; rw [hf]
    have hm1 : ilt (-1) 0 = true := rfl
    simp [hn, h0, hc2, hm1, idxO, kseq_normal]
    exact ⟨rfl, stay e⟩
  | some i =>
    have hi : i < s.units.length := by
      have := List.findIdx?_eq_some_iff_getElem.1 hf
      obtain ⟨hh, _⟩ := this; exact hh
    have hi0 : ilt (i : Int) 0 = false := by rw [ilt_false]; omega
    obtain ⟨b, o, _, hix, hbn, _, hat⟩ := Sl.at_blk hun2 sl53 sz78 i (by omega)
    obtain ⟨cs, hcs, d', rfl, _⟩ := hpl2.us.get i s.units[i] (List.getElem?_eq_getElem hi)
    have hat := hat 5 2 ag2 (by omega)
    rw [List.getElem?_eq_getElem (by omega)] at hcs
    rw [Option.some.inj hcs] at hat
    simp at hat
    simp [hn, h0, hc2, hi0, hix, hat, idxO, kseq_normal]
    refine Br.mk (fun hb => ?_) (fun hb => ?_)
    · have e : ackP s f.msg f.frag = s := by unfold ackP; rw [hf]; simp [hi, hb]
      exact ⟨rfl, stay e⟩
    have e : ackP s f.msg f.frag = ackS s (i + 1) := by unfold ackP; rw [hf]; simp [hi, hb]
    rw [e]
    clear stay e hf
    have hi1 : IntKind.i64.wrap ((i : Int) + 1) = ((i + 1 : Nat) : Int) := wrap_nat i (by omega)
    obtain ⟨w, hw, hws, hwb⟩ := hun2.slice sl53 sz78 (lo := none) (hi := some (i64 ((i + 1 : Nat) : Int))) (i := 0) (j := i + 1) (by rfl) (by simp [bnd, nat?]; omega) (by omega) (by omega)
    simp only [List.drop_zero, Nat.sub_zero] at hws
    have hwl := hws.len sl53
    rw [List.length_take, Nat.min_eq_left (by omega)] at hwl
    have hus := URs.take hpl2.us (i + 1)
    simp only [Int.natCast_add, Int.natCast_one] at hi1 hw hwl
    simp [hn, h0, hc2, hi1, hw, hwl, kseq_normal]
    have hpn : p < h2.next := hpl2.lt
    have hap : blk v.un ≠ some p := hpl2.away.un
    refine AW_cut_x 0 (fun fr' h' => h'.get p = .cells 56 (pcells { s with done := doneF s.done (s.units.take (i + 1)) } v) (some 0) ∧ Upd [p] h2 h') ?_ ?_
    · refine AW_loop_fr (fun m fr' h' => ∃ k, m = i + 1 - k ∧ k ≤ i + 1 ∧ fr'.get 34 = some (i64 (k : Nat)) ∧ h'.get p = .cells 56 (pcells { s with done := doneF s.done (s.units.take k) } v) (some 0) ∧ Upd [p] h2 h') (i + 1)
        ⟨0, by simp, by omega, by simp, by simpa [doneF] using hc2, Upd.refl _ _⟩ ?_
      rintro J hJ m fr' h' ⟨k, rfl, hk, h34, hcp, hu⟩ hfr
      have hn' : fr'.n = 61 := hfr.1.trans (by simp [hn])
      have h0' : fr'.get 0 = some (.ptr p 0) := (hfr.2 0 (by kernel_rfl)).trans (by simp [h0])
      have h32 : fr'.get 32 = some w := (hfr.2 32 (by kernel_rfl)).trans (by simp)
      have h33 : fr'.get 33 = some (i64 ((i : Int) + 1)) := (hfr.2 33 (by kernel_rfl)).trans (by simp)
      clear hfr
      have hun := hu.1
      simp [hn', h33, h34, kseq_normal]
      refine Br.mk (fun hb1 => ?_) (fun hb1 => ?_)
      · have hk1 : k < i + 1 := by rw [ilt_true] at hb1; omega
        have hws' : Sl h' 6 w (v.rows.take (i + 1)) := Sl.keep hws hu.1 fun c hc hlt => hu.2 c hlt fun e => hap (by rw [← hwb, hc]; simp at e; rw [e])
        obtain ⟨b2, o2, _, hix2, hbn2, hag2, _⟩ := Sl.at_blk hws' sl53 sz78 k (by rw [List.length_take]; omega)
        have hag2 := hag2 ag78
        obtain ⟨cs2, hcs2, d2, rfl, hbd2⟩ := hus.get k s.units[k] (by rw [List.getElem?_take, if_pos hk1, List.getElem?_eq_getElem])
        rw [List.getElem?_eq_getElem (by rw [List.length_take]; omega)] at hcs2
        rw [Option.some.inj hcs2] at hag2
        have hds := doneF_succ s.done (us := s.units) (k := k) (by omega)
        have hu1 : ∀ o1 o2, Upd [p] h2 ((h'.new o1).set h'.next o2) := fun o1 o2 => ⟨by simp; omega, fun c hc hne => by rw [AHeap.get_set, if_neg (by omega), AHeap.get_new, if_neg (by omega)]; exact hu.2 c hc hne⟩
        have hne : (h'.next = p) = False := eq_false (by omega)
        have hdd : AV.one d2 = true := hbd2.one.2.1
        have hzp : ∀ o1 o2, ((h'.new o1).set h'.next o2).get p = .cells 56 (pcells { s with done := doneF s.done (s.units.take k) } v) (some 0) := fun o1 o2 => by rw [AHeap.get_set, if_neg (by omega), AHeap.get_new, if_neg (by omega)]; exact hcp
        simp [hn', h0', h32, h34, hix2, hag2, stc_all sz78, hdd, kseq_normal]
        refine Br.mk (fun hb2 => ?_) (fun hb2 => ?_)
        · simp [hn', h0', h34, hne, hcp, pst_done, kseq_normal]
          rw [kloop_normal]
          refine ⟨i + 1 - (k + 1), by omega, hJ _ _ _ ⟨k + 1, rfl, by omega, by simp [wrap_nat k (by omega)], by simp [hds, hb2], (hu1 _ _).trans (Upd.set_p _ _ _)⟩⟩
        · simp [hn', h34, kseq_normal]
          rw [kloop_normal]
          refine ⟨i + 1 - (k + 1), by omega, hJ _ _ _ ⟨k + 1, rfl, by omega, by simp [wrap_nat k (by omega)], by rw [hzp, hds, if_neg (by simp [hb2])], hu1 _ _⟩⟩
      · have : k = i + 1 := by rw [ilt_false] at hb1; omega
        subst this
        simp [hn', kseq_normal, hcp, hu]
    rintro fr4 h4 ⟨hcp, hu⟩ hfr
    have hn4 : fr4.n = 61 := hfr.1.trans (by simp [hn])
    have h04 : fr4.get 0 = some (.ptr p 0) := (hfr.2 0 (by kernel_rfl)).trans (by simp [h0])
    have h44 : fr4.get 4 = some (i64 (i : Int)) := (hfr.2 4 (by kernel_rfl)).trans (by simp)
    clear hfr
    have hpl4 := hpl2.of_p hu hcp
    rw [kblock_exit_eq, kseq_normal]
    simp [hn4, h04, h44, hcp, hi1]
    refine (delete_sp (j := i + 1) hpl4.un (by omega) (by omega) (by omega)).mono ?_
    rintro un5 h5 ⟨hg5, hb5, hn5, hk5⟩
    have hc5 : h5.get p = .cells 56 (pcells { s with done := doneF s.done (s.units.take (i + 1)) } v) (some 0) := (hk5 p hap).trans hcp
    obtain ⟨hx1, hx2, hx3⟩ := Sl.one hg5.sl
    simp [hn4, h04, h44, hc5, pst_un _ _ hx1 hx3, pst_repeats, kseq_normal]
    refine ⟨rfl, ?_⟩
    have hU : URs ((h5.set p (.cells 56 (pcells { s with done := doneF s.done (s.units.take (i + 1)) } { v with un := un5 }) (some 0))).set p (.cells 56 (pcells { s with done := doneF s.done (s.units.take (i + 1)), repeats := 0 } { v with un := un5 }) (some 0))) (s.units.drop (i + 1)) (v.rows.drop (i + 1)) := by
      refine URs.keep (h := h4) (by simp; omega) (URs.drop hpl4.us (i + 1)) fun c ⟨row, hm, hc⟩ hlt => ?_
      have hrc : v.R c := ⟨row, List.mem_of_mem_drop hm, hc⟩
      have hs := (hpl4.sep c hrc).1
      have hcp' : p ≠ c := fun e => hs (.inl e.symm)
      rw [AHeap.get_set, if_neg hcp', AHeap.get_set, if_neg hcp']
      exact hk5 c fun e => hs (.inr (.inr (.inl e)))
    obtain ⟨r1, r2⟩ := hpl4.of_un (x := un5) (rows' := v.rows.drop (i + 1)) (s' := ackS s (i + 1)) (h' := (h5.set p (.cells 56 (pcells { s with done := doneF s.done (s.units.take (i + 1)) } { v with un := un5 }) (some 0))).set p (.cells 56 (pcells { s with done := doneF s.done (s.units.take (i + 1)), repeats := 0 } { v with un := un5 }) (some 0)))
      (by simp; omega) (fun c hlt hne hub => by rw [AHeap.get_set, if_neg (Ne.symm hne), AHeap.get_set, if_neg (Ne.symm hne)]; exact hk5 c hub) (by simp [ackS])
      (hg5.keep (by simp) fun c hc hlt => by rw [AHeap.get_set, if_neg (fun e => hap (by rw [← hb5, hc, e])), AHeap.get_set, if_neg (fun e => hap (by rw [← hb5, hc, e]))])
      hU (fun c hc => .inl (by rw [← hb5]; exact hc)) (fun row hm c hc => .inl ⟨row, List.mem_of_mem_drop hm, hc⟩)
    · exact ⟨_, r1, (hpp.ev p v).trans ((hu.ev v).trans r2)⟩
end Go.Eng.L35
