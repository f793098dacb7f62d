/- Law 35: Input of the program. -/
import Derived.Test.YtcjgagkkanokjabL35P
namespace Go.Eng.L35
open Go.Proofs Go.Eng
/-- The part is written. -/
theorem PL.of_pt {h h' : AHeap} {p : Nat} {s : S} {v : V} (hp : PL h p s v) {x : AV} {s' : S} (hn : h.next ≤ h'.next) (hk : ∀ c, c < h.next → c ≠ p → blk v.pt ≠ some c → h'.get c = h.get c)
    (hc : h'.get p = .cells 56 (pcells s' { v with pt := x }) (some 0)) (hg : Gf h' 5 1 x (byt s'.part)) (hx : ∀ c, blk x = some c → blk v.pt = some c ∨ h.next ≤ c)
    (e1 : s'.up = s.up := by rfl) (e2 : s'.units = s.units := by rfl) (e4 : s'.acks = s.acks := by rfl) :
    PL h' p s' { v with pt := x } ∧ Ev h h' p v { v with pt := x } := by
  have a := hp.away
  obtain ⟨_, tu⟩ := hp.up.ty
  have kb : ∀ c, blk v.pt = some c → c ≠ v.bu ∧ blk v.ak ≠ some c ∧ blk v.un ≠ some c := fun c hc => by
    obtain ⟨_, t1⟩ := Gw.ty hp.pt.gw hc
    refine ⟨ne_ty t1 tu (by decide), fun e => ?_, fun e => ?_⟩
    · obtain ⟨_, t2⟩ := Gw.ty hp.ak e; exact ne_ty t1 t2 (by decide) rfl
    · obtain ⟨_, t2⟩ := Gw.ty hp.un e; exact ne_ty t1 t2 (by decide) rfl
  refine ⟨⟨hc, Nat.lt_of_lt_of_le hp.lt hn, e1 ▸ hp.up.keep hn (hk _ hp.up.lt (Ne.symm a.bu) fun e => (kb _ e).1 rfl), hp.un.keep hn fun c hc hl => hk c hl (fun e => a.un (e ▸ hc)) fun e => (kb c e).2.2 hc, e2 ▸ hp.us.keep hn fun c hcr hl => hk c hl (fun e => a.rows (e ▸ hcr)) (hp.sep c hcr).2, hg, e4 ▸ hp.ak.keep hn fun c hc hl => hk c hl (fun e => a.ak (e ▸ hc)) fun e => (kb c e).2.1 hc, fun c hcr => ?_⟩, ⟨hn, fun c hl hw hpt => hk c hl (fun e => hw (.inl e)) hpt, fun c hw => .inl hw, fun c h => .inl h, hx⟩⟩
  refine ⟨(hp.sep c hcr).1, fun e => ?_⟩
  rcases hx c e with e | e
  · exact (hp.sep c hcr).2 e
  · have := hp.us.lt c hcr; omega
/-- The acknowledgments are written. -/
theorem PL.of_ak {h h' : AHeap} {p : Nat} {s : S} {v : V} (hp : PL h p s v) {x : AV} {s' : S} (hn : h.next ≤ h'.next) (hk : ∀ c, c < h.next → c ≠ p → blk v.ak ≠ some c → h'.get c = h.get c)
    (hc : h'.get p = .cells 56 (pcells s' { v with ak := x }) (some 0)) (hg : Gw h' 82 6 x (s'.acks.map arow)) (hx : ∀ c, blk x = some c → blk v.ak = some c ∨ h.next ≤ c)
    (e1 : s'.up = s.up := by rfl) (e2 : s'.units = s.units := by rfl) (e3 : s'.part = s.part := by rfl) :
    PL h' p s' { v with ak := x } ∧ Ev h h' p v { v with ak := x } := by
  have a := hp.away
  obtain ⟨_, tu⟩ := hp.up.ty
  have kb : ∀ c, blk v.ak = some c → c ≠ v.bu ∧ blk v.un ≠ some c ∧ blk v.pt ≠ some c := fun c hc => by
    obtain ⟨_, t1⟩ := Gw.ty hp.ak hc
    refine ⟨ne_ty t1 tu (by decide), fun e => ?_, fun e => ?_⟩
    · obtain ⟨_, t2⟩ := Gw.ty hp.un e; exact ne_ty t1 t2 (by decide) rfl
    · obtain ⟨_, t2⟩ := Gw.ty hp.pt.gw e; exact ne_ty t1 t2 (by decide) rfl
  refine ⟨⟨hc, Nat.lt_of_lt_of_le hp.lt hn, e1 ▸ hp.up.keep hn (hk _ hp.up.lt (Ne.symm a.bu) fun e => (kb _ e).1 rfl), hp.un.keep hn fun c hc hl => hk c hl (fun e => a.un (e ▸ hc)) fun e => (kb c e).2.1 hc, e2 ▸ hp.us.keep hn fun c hcr hl => hk c hl (fun e => a.rows (e ▸ hcr)) fun e => (hp.sep c hcr).1 (.inr (.inr (.inr e))), e3 ▸ hp.pt.keep hn fun c hc hl => hk c hl (fun e => a.pt (e ▸ hc)) fun e => (kb c e).2.2 hc, hg, fun c hcr => ?_⟩, ⟨hn, fun c hl hw hpt => hk c hl (fun e => hw (.inl e)) fun e => hw (.inr (.inr (.inr e))), fun c hw => ?_, fun c h => .inl h, fun c h => .inl h⟩⟩
  · obtain ⟨h1, h2⟩ := hp.sep c hcr
    refine ⟨?_, h2⟩
    rintro (hw | hw | hw | hw)
    · exact h1 (.inl hw)
    · exact h1 (.inr (.inl hw))
    · exact h1 (.inr (.inr (.inl hw)))
    · rcases hx c hw with e | e
      · exact h1 (.inr (.inr (.inr e)))
      · have := hp.us.lt c hcr; omega
  · rcases hw with hw | hw | hw | hw
    · exact .inl (.inl hw)
    · exact .inl (.inr (.inl hw))
    · exact .inl (.inr (.inr (.inl hw)))
    · rcases hx c hw with e | e
      · exact .inl (.inr (.inr (.inr e)))
      · exact .inr e
theorem RL.of_pt {h h' : AHeap} {p : Nat} {s : S} {v : V} (hp : RL h p s v) {x : AV} {s' : S} (hn : h.next ≤ h'.next) (hk : ∀ c, c < h.next → c ≠ p → h'.get c = h.get c)
    (hc : h'.get p = .cells 60 (rcells s' { v with pt := x }) (some 0)) (hg : Bs h' x s'.part) (hx : ∀ c, blk x = some c → blk v.pt = some c ∨ h.next ≤ c)
    (e1 : s'.up = s.up := by rfl) (e2 : s'.units = s.units := by rfl) (e4 : s'.acks = s.acks := by rfl) :
    RL h' p s' { v with pt := x } ∧ Ev h h' p v { v with pt := x } := by
  have a := hp.away
  refine ⟨⟨hc, Nat.lt_of_lt_of_le hp.lt hn, e1 ▸ hp.up.keep hn (hk _ hp.up.lt (Ne.symm a.bu)), hp.un.keep hn fun c hc hl => hk c hl (fun e => a.un (e ▸ hc)), e2 ▸ hp.us.keep hn fun c hcr hl => hk c hl (fun e => a.rows (e ▸ hcr)), hg, e4 ▸ hp.ak.keep hn fun c hc hl => hk c hl (fun e => a.ak (e ▸ hc)), fun c hcr => ?_⟩, ⟨hn, fun c hl hw hpt => hk c hl (fun e => hw (.inl e)), fun c hw => .inl hw, fun c h => .inl h, hx⟩⟩
  rcases hcr with hcr | hcr
  · exact hp.sep c (.inl hcr)
  · rcases hx c hcr with e | e
    · exact hp.sep c (.inr e)
    · intro hw
      have := V.W_lt hp.lt hp.up hp.un hp.ak c hw
      omega
theorem RL.of_ak {h h' : AHeap} {p : Nat} {s : S} {v : V} (hp : RL h p s v) {x : AV} {s' : S} (hn : h.next ≤ h'.next) (hk : ∀ c, c < h.next → c ≠ p → blk v.ak ≠ some c → h'.get c = h.get c)
    (hc : h'.get p = .cells 60 (rcells s' { v with ak := x }) (some 0)) (hg : Gw h' 103 6 x (s'.acks.map arow)) (hx : ∀ c, blk x = some c → blk v.ak = some c ∨ h.next ≤ c)
    (e1 : s'.up = s.up := by rfl) (e2 : s'.units = s.units := by rfl) (e3 : s'.part = s.part := by rfl) :
    RL h' p s' { v with ak := x } ∧ Ev h h' p v { v with ak := x } := by
  have a := hp.away
  obtain ⟨_, tu⟩ := hp.up.ty
  have kb : ∀ c, blk v.ak = some c → c ≠ v.bu ∧ blk v.un ≠ some c ∧ blk v.pt ≠ some c := fun c hc => by
    obtain ⟨_, t1⟩ := Gw.ty hp.ak hc
    refine ⟨ne_ty t1 tu (by decide), fun e => ?_, fun e => hp.sep c (.inr e) (.inr (.inr (.inr hc)))⟩
    obtain ⟨_, t2⟩ := Gw.ty hp.un e; exact ne_ty t1 t2 (by decide) rfl
  refine ⟨⟨hc, Nat.lt_of_lt_of_le hp.lt hn, e1 ▸ hp.up.keep hn (hk _ hp.up.lt (Ne.symm a.bu) fun e => (kb _ e).1 rfl), hp.un.keep hn fun c hc hl => hk c hl (fun e => a.un (e ▸ hc)) fun e => (kb c e).2.1 hc, e2 ▸ hp.us.keep hn fun c hcr hl => hk c hl (fun e => a.rows (e ▸ hcr)) fun e => hp.sep c (.inl hcr) (.inr (.inr (.inr e))), e3 ▸ Sl.keep hp.pt hn fun c hc hl => hk c hl (fun e => a.pt (e ▸ hc)) fun e => (kb c e).2.2 hc, hg, fun c hcr => ?_⟩, ⟨hn, fun c hl hw hpt => hk c hl (fun e => hw (.inl e)) fun e => hw (.inr (.inr (.inr e))), fun c hw => ?_, fun c h => .inl h, fun c h => .inl h⟩⟩
  · have h1 := hp.sep c hcr
    have hlt : c < h.next := by
      rcases hcr with hcr | hcr
      · exact hp.us.lt c hcr
      · exact Sl.blk_lt hp.pt hcr
    rintro (hw | hw | hw | hw)
    · exact h1 (.inl hw)
    · exact h1 (.inr (.inl hw))
    · exact h1 (.inr (.inr (.inl hw)))
    · rcases hx c hw with e | e
      · exact h1 (.inr (.inr (.inr e)))
      · omega
  · rcases hw with hw | hw | hw | hw
    · exact .inl (.inl hw)
    · exact .inl (.inr (.inl hw))
    · exact .inl (.inr (.inr (.inl hw)))
    · rcases hx c hw with e | e
      · exact .inl (.inr (.inr (.inr e)))
      · exact .inr e
/-- A slice of byte slices. -/
structure Bss (h : AHeap) (x : AV) (ds : List AV) (l : List (List UInt8)) : Prop where
  sl : Sl h 1 x (ds.map fun d => [d])
  len : ds.length = l.length
  el : ∀ (i : Nat) (d : AV) (b : List UInt8), ds[i]? = some d → l[i]? = some b → Bs h d b
/-- What Input does with a frame of data, and its answer. -/
def inS (s : S) (f : Fm) : S × List (List UInt8) :=
  if ieq f.msg s.msg && ieq f.frag s.frag && !(ilt 4096 (((s.part.length : Nat) : Int) + ((f.data.length : Nat) : Int))) then
    if f.last then ({ s with part := [], msg := IntKind.i64.wrap (s.msg + 1), frag := 0 }, [s.part ++ f.data])
    else ({ s with part := s.part ++ f.data, frag := IntKind.i64.wrap (s.frag + 1) }, [])
  else (s, [])
def ackA (s : S) (wire : Int) : S := { s with acks := s.acks ++ [(wire, s.msg, s.frag)] }
def inE (s : S) (wire : Int) (bs : List UInt8) (now : Int) : Int :=
  if ilt wire 0 || !(ilt wire (s.up.length : Int)) then 3 else if !(ieq (timeE s now) 0) then timeE s now else decE bs
def inR (ack : S → Int → Int → S) (s : S) (wire : Int) (bs : List UInt8) (now : Int) : S × List (List UInt8) :=
  if ieq (inE s wire bs now) 0 then
    if ieq (decO bs).kind 2 then (ack { s with clock := now } (decO bs).msg (decO bs).frag, [])
    else (ackA (inS { s with clock := now } (decO bs)).1 wire, (inS { s with clock := now } (decO bs)).2)
  else (s, [])
/-- The answer of Input. -/
def inA (h h' : AHeap) (v : V) (l : List (List UInt8)) (e : Int) (r : AV) : Prop :=
  ∃ x ds, r = .tuple [x, i64 e] ∧ Bss h' x ds l ∧ Fresh h x ∧ ∀ d ∈ ds, ∀ c, blk d = some c → blk v.pt = some c ∨ h.next ≤ c
theorem Bss.nil (h : AHeap) : Bss h .nilsl [] [] := ⟨Sl.nil h 1, rfl, fun i d b hd => by simp at hd⟩
theorem inA.nil (h h' : AHeap) (v : V) (e : Int) : inA h h' v [] e (.tuple [.nilsl, i64 e]) := ⟨_, [], rfl, Bss.nil h', fun c hc => by simp [blk] at hc, by simp⟩
theorem decO_len (bs : List UInt8) : (decO bs).data.length ≤ bs.length := by
  unfold decO
  split
  · simp [decFm]
  · simp
theorem pb82_ack (a m k : Int) : pbuild Try.prog 82 [(0, i64 a), (1, .agg [i64 2, .bool false, i64 m, i64 k, .nilsl])] = some (.agg (arow (a, m, k))) := by rw [pb82]; rfl
theorem arow_cells (a : Int × Int × Int) : (AV.agg (arow a)).cells = arow a := rfl
/-- What stands when the frame is in its place. -/
def InQ (h0 h : AHeap) (p : Nat) (v : V) (L : AHeap → S → V → Prop) (R : S × List (List UInt8)) (x : AV) : Prop :=
  ∃ ds v', Bss h x ds R.2 ∧ Fresh h0 x ∧ (∀ d ∈ ds, ∀ c, blk d = some c → blk v.pt = some c ∨ h0.next ≤ c) ∧ L h R.1 v' ∧ Ev h0 h p v v' ∧ (∀ c, blk x = some c → blk v'.ak ≠ some c) ∧ ∀ d ∈ ds, ∀ c, blk d = some c → p ≠ c ∧ blk v'.ak ≠ some c
theorem InQ.nil {h0 h : AHeap} {p : Nat} {v v' : V} {L : AHeap → S → V → Prop} {s : S} (hl : L h s v') (he : Ev h0 h p v v') : InQ h0 h p v L (s, []) .nilsl :=
  ⟨[], v', Bss.nil h, fun c hc => by simp [blk] at hc, by simp, hl, he, fun c hc => by simp [blk] at hc, by simp⟩
variable [O35]
theorem pin_sp {h : AHeap} {p : Nat} {s : S} {v : V} {x : AV} {bs : List UInt8} (hp : PL h p s v) (wire now : Int) (hx : Bs h x bs) (hl : bs.length ≤ 100000000) (hul : s.units.length ≤ 100000) (hal : s.acks.length ≤ 100000) (hpl0 : s.part.length ≤ 4096) (hupl : s.up.length ≤ 1000) :
    Ca Try.prog 18 [.ptr p 0, i64 wire, x, i64 now] h fun r h' => inA h h' v (inR ackP s wire bs now).2 (inE s wire bs now) r ∧ ∃ v', PL h' p (inR ackP s wire bs now).1 v' ∧ Ev h h' p v v' := by
  refine ci Try.func18 rfl (by decide) ?_
  intro fr hn hg
  replace hn : fr.n = 139 := hn
  have h0 : fr.get 0 = some (.ptr p 0) := hg 0 (by simp)
  have h1 : fr.get 1 = some (i64 wire) := hg 1 (by simp)
  have h2 : fr.get 2 = some x := hg 2 (by simp)
  have h3 : fr.get 3 = some (i64 now) := hg 3 (by simp)
  clear hg
  show AW _ _ _ _ _
  have hcl := hp.cells
  obtain ⟨z, cap, cs, hup, _⟩ := hp.up
  have hul8 : plen Try.prog 49 v.up = some (i64 (s.up.length : Int)) := by rw [hup]; simp [plen, sl49]
  have bad : ∀ e, inE s wire bs now = e → ieq e 0 = false → inA h h v (inR ackP s wire bs now).2 (inE s wire bs now) (.tuple [.nilsl, i64 e]) ∧ ∃ v', PL h p (inR ackP s wire bs now).1 v' ∧ Ev h h p v v' := fun e he h0 => by
    have : inR ackP s wire bs now = (s, []) := by unfold inR; rw [he, h0]; rfl
    rw [this, he]; exact ⟨inA.nil h h v e, v, hp, Ev.refl h p v⟩
  simp [hn, h0, h1, hcl, hul8, bin2_eql_ptr pt27, kseq_normal]
  refine Br.mk (fun hb1 => ?_) (fun hb1 => ?_)
  · simp [hn, hb1, kseq_normal]
    exact bad 3 (by unfold inE; rw [hb1]; rfl) rfl
  simp [hn, h0, h1, hb1, hcl, hul8, kseq_normal]
  refine Br.mk (fun hb2 => ?_) (fun hb2 => ?_)
  case refine_2 =>
    simp [hn, kseq_normal]
    exact bad 3 (by unfold inE; rw [hb1, hb2]; rfl) rfl
  simp [hn, h0, h3, kseq_normal]
  refine (ptime_sp hp now).mono ?_
  rintro r h1' ⟨rfl, rfl⟩
  simp [hn, kseq_normal]
  refine Br.mk (fun hb3 => ?_) (fun hb3 => ?_)
  case refine_2 =>
    simp [hn, kseq_normal]
    exact bad _ (by unfold inE; rw [hb1, hb2, hb3]; rfl) hb3
  simp [hn, h2, kseq_normal]
  refine (pdec_sp _ x bs hx hl).mono ?_
  rintro r h2' ⟨d, rfl, hd, hp2, hfd⟩
  have hE : inE s wire bs now = decE bs := by unfold inE; rw [hb1, hb2, hb3]; rfl
  obtain ⟨hd1, hd2, hd3⟩ := hd.one
  rw [hE] at bad ⊢
  simp [hn, stc_all sz52, hd2]
  rw [kseq_normal]
  have hpF : Pres h1' ((h2'.new (.cells 52 [i64 0, .bool false, i64 0, i64 0, .nilsl] (some 0))).set h2'.next (.cells 52 ((decO bs).cells d) (some 0))) := (hp2.new _).set hp2.1 _
  have hpF2 : Pres h2' ((h2'.new (.cells 52 [i64 0, .bool false, i64 0, i64 0, .nilsl] (some 0))).set h2'.next (.cells 52 ((decO bs).cells d) (some 0))) := ((Pres.refl h2').new _).set (Nat.le_refl _) _
  refine AW_gen (fun fr' h' => fr'.n = 139 ∧ fr'.get 0 = some (.ptr p 0) ∧ fr'.get 1 = some (i64 wire) ∧ fr'.get 3 = some (i64 now) ∧ fr'.get 11 = some (.ptr h2'.next 0) ∧ fr'.get 12 = some (i64 (decE bs)) ∧ h'.get h2'.next = .cells 52 ((decO bs).cells d) (some 0) ∧ h'.next = h2'.next + 1 ∧ Pres h1' h' ∧ Pres h2' h') ⟨by simp [hn], by simp [h0], by simp [h1], by simp [h3], by simp, by simp, by simp, by simp, hpF, hpF2⟩ ?_
  rintro fr3 h3' ⟨hn3, h03, h13, h33, h113, h123, hq, hnq, hp3, hp23⟩
  clear hpF hpF2
  simp [hn3, h123, kseq_normal]
  refine Br.mk (fun hb4 => ?_) (fun hb4 => ?_)
  case refine_2 =>
    simp [hn3, h123, kseq_normal]
    have : inR ackP s wire bs now = (s, []) := by unfold inR; rw [hE, hb4]; rfl
    rw [this]; exact ⟨inA.nil _ _ v _, v, hp.pres hp3, hp3.ev p v⟩
  have e0 : decE bs = 0 := ieq_true.1 hb4
  have hpn := hp.lt
  have hpl3 := hp.pres hp3
  have hcl3 := hpl3.cells
  have hne : (h2'.next = p) = False := eq_false (by have := hp2.1; omega)
  have hne2 : (p = h2'.next) = False := eq_false (by have := hp2.1; omega)
  have hpl4 := hpl3.put { s with clock := now }
  have hev4 := (hp3.ev p v).trans (Ev.set h3' p v (.cells 56 (pcells { s with clock := now } v) (some 0)))
  have hd4 : Bs (h3'.set p (.cells 56 (pcells { s with clock := now } v) (some 0))) d (decO bs).data := Sl.keep (hd.pres hp23) (by simp) fun c hc _ => get_ne _ fun e => by have := hfd c hc; omega
  have hq4 : (h3'.set p (.cells 56 (pcells { s with clock := now } v) (some 0))).get h2'.next = .cells 52 ((decO bs).cells d) (some 0) := by rw [AHeap.get_set, if_neg (by rw [hne2]; trivial)]; exact hq
  have hR : inR ackP s wire bs now = if ieq (decO bs).kind 2 then (ackP { s with clock := now } (decO bs).msg (decO bs).frag, []) else (ackA (inS { s with clock := now } (decO bs)).1 wire, (inS { s with clock := now } (decO bs)).2) := by
    unfold inR; rw [hE, hb4]; rfl
  rw [hR, e0]
  simp [hn3, h03, h33, hcl3, pst_clock]
  rw [kseq_normal]
  refine AW_gen (fun fr' h' => fr'.n = 139 ∧ fr'.get 0 = some (.ptr p 0) ∧ fr'.get 1 = some (i64 wire) ∧ fr'.get 11 = some (.ptr h2'.next 0) ∧ h'.get h2'.next = .cells 52 ((decO bs).cells d) (some 0) ∧ h2'.next < h'.next ∧ PL h' p { s with clock := now } v ∧ Ev h1' h' p v v ∧ Bs h' d (decO bs).data) ⟨by simp [hn3], by simp [h03], by simp [h13], by simp [h113], hq4, by simp; omega, hpl4, hev4, hd4⟩ ?_
  rintro fr4 h4' ⟨hn4, h04, h14, h114, hq5, hlt5, hpl5, hev5, hd5⟩
  obtain ⟨s1, hs1⟩ : ∃ s1 : S, s1 = { s with clock := now } := ⟨_, rfl⟩
  have ep : s1.part = s.part := by rw [hs1]
  have ea : s1.acks = s.acks := by rw [hs1]
  have eu : s1.units = s.units := by rw [hs1]
  rw [← hs1] at hpl5 ⊢
  rw [← ep] at hpl0
  rw [← ea] at hal
  rw [← eu] at hul
  clear hs1 ep ea eu hR hq4 hd4 hev4 hpl4 hne hne2 hcl3 hpl3 e0 hp23 hp3 hnq hq h123 h113 h33 h13 h03 hn3 bad hul8 hcl hE
  generalize hf : decO bs = f at *
  have hcl5 := hpl5.cells
  simp [hn4, h114, hq5, kseq_normal]
  refine Br.mk (fun hb5 => ?_) (fun hb5 => ?_)
  · simp [hn4, h04, h114, hq5, kseq_normal]
    refine (packnow_sp hpl5 hd5 hul).mono ?_
    rintro r h6 ⟨rfl, v', hpl6, hev6⟩
    simp [hn4, kseq_normal, hb5]
    exact ⟨inA.nil _ _ v 0, v', hpl6, hev5.trans hev6⟩
  simp [hn4, h04, hb5, kseq_normal]
  rw [← AW_seq]
  have hbq : p ≠ h2'.next := by have := hp2.1; omega
  have hlen6 : plen Try.prog 34 v.pt = some (i64 (s1.part.length : Int)) := hpl5.pt.bs.len
  have hlend : plen Try.prog 34 d = some (i64 (f.data.length : Int)) := hd5.len
  have hw2 : IntKind.i64.wrap ((s1.part.length : Int) + (f.data.length : Int)) = (s1.part.length : Int) + (f.data.length : Int) := wrap_in (by have := decO_len bs; rw [hf] at this; omega)
  refine AW_cut (Q' := fun e fr' h' => e = .normal ∧ fr'.n = 139 ∧ fr'.get 0 = some (.ptr p 0) ∧ fr'.get 1 = some (i64 wire) ∧ ∃ x, fr'.get 13 = some x ∧ InQ h1' h' p v (fun h s v => PL h p s v) (inS s1 f) x) ?_ ?_
  · have no : inS s1 f = (s1, []) → InQ h1' h4' p v (fun h s v => PL h p s v) (inS s1 f) .nilsl := fun e => by rw [e]; exact InQ.nil hpl5 hev5
    rw [AW_seq]
    refine AW_region_t _ _ _ _ _ (by kernel_rfl) ?_
    simp [hn4, h04, h114, hq5, hcl5, kseq_normal]
    refine Br.mk (fun hb6 => ?_) (fun hb6 => ?_)
    case refine_2 =>
      simp [hn4, h04, h14, hb6, kseq_normal]
      exact no (by unfold inS; rw [hb6]; rfl)
    simp [hn4, h04, h114, hq5, hcl5, hb6, kseq_normal]
    refine Br.mk (fun hb7 => ?_) (fun hb7 => ?_)
    case refine_2 =>
      simp [hn4, h04, h14, hb6, hb7, kseq_normal]
      exact no (by unfold inS; rw [hb6, hb7]; rfl)
    simp [hn4, h04, h114, hq5, hcl5, hb6, hb7, hlen6, hlend, hw2, kseq_normal]
    refine Br.mk (fun hb8 => ?_) (fun hb8 => ?_)
    · simp [hn4, h04, h14, hb6, hb7, hb8, kseq_normal]
      exact no (by unfold inS; rw [hb6, hb7, hb8]; rfl)
    simp [hn4, hb6, hb7, hb8]
    rw [← AW_seq]
    simp only [AW_seq]
    refine AW_region_t _ _ _ _ _ (by kernel_rfl) ?_
    have hb8' := ilt_false.1 hb8
    obtain ⟨x', h6, hap6, hg6, hgr6⟩ := appB hpl5.pt hd5 (by omega)
    have hap : blk v.pt ≠ some p := hpl5.away.pt
    have haq : blk v.pt ≠ some h2'.next := fun e => by have := hp.pt.blk_lt e; have := hp2.1; omega
    have hc6 := (hgr6.keep p hpl5.lt hap).trans hcl5
    have hq6 := (hgr6.keep _ hlt5 haq).trans hq5
    obtain ⟨hx1, hx2, hx3⟩ := Sl.one hg6.sl
    simp [hn4, h04, h114, hq5, hcl5, hap6, hc6, pst_pt _ _ hx1 hx3]
    rw [kseq_normal]
    obtain ⟨hpl7, hev7⟩ := hpl5.of_pt (x := x') (s' := { s1 with part := s1.part ++ f.data }) (h' := h6.set p (.cells 56 (pcells s1 { v with pt := x' }) (some 0))) (by simp; exact hgr6.next)
      (fun c hlt hne hb => by rw [AHeap.get_set, if_neg (Ne.symm hne)]; exact hgr6.keep c hlt hb) (by simp) (hg6.keep (by simp) fun c hc hlt => get_ne _ fun e => by
        rcases hgr6.new c hc with e1 | e1
        · exact hap (e ▸ e1)
        · have := hpl5.lt; omega) hgr6.new
    refine AW_gen (fun fr' h' => fr'.n = 139 ∧ fr'.get 0 = some (.ptr p 0) ∧ fr'.get 1 = some (i64 wire) ∧ fr'.get 11 = some (.ptr h2'.next 0) ∧ fr'.get 13 = some .nilsl ∧ fr'.get 14 = some (.ptr p 11) ∧ h'.get h2'.next = .cells 52 (f.cells d) (some 0) ∧ PL h' p { s1 with part := s1.part ++ f.data } { v with pt := x' } ∧ Ev h1' h' p v { v with pt := x' } ∧ h2'.next < h'.next)
      ⟨by simp [hn4], by simp [h04], by simp [h14], by simp [h114], by simp, by simp, by rw [AHeap.get_set, if_neg hbq]; exact hq6, hpl7, hev5.trans hev7, by simp; have := hgr6.next; omega⟩ ?_
    clear hpl7 hev7 hq6 hc6 hap6 hg6
    rintro fr7 h7 ⟨hn7, h07, h17, h117, h137, h147, hq7, hpl7, hev7, hlt7⟩
    have hcl7 := hpl7.cells
    have hpl8 := hpl7.put { s1 with part := s1.part ++ f.data, frag := IntKind.i64.wrap (s1.frag + 1) }
    have hev8 := hev7.trans (Ev.set h7 p { v with pt := x' } (.cells 56 (pcells { s1 with part := s1.part ++ f.data, frag := IntKind.i64.wrap (s1.frag + 1) } { v with pt := x' }) (some 0)))
    simp [hn7, h147, hcl7, pst_frag]
    rw [kseq_normal]
    have hq8 : (h7.set p (.cells 56 (pcells { s1 with part := s1.part ++ f.data, frag := IntKind.i64.wrap (s1.frag + 1) } { v with pt := x' }) (some 0))).get h2'.next = .cells 52 (f.cells d) (some 0) := by rw [AHeap.get_set, if_neg hbq]; exact hq7
    obtain ⟨s2, hs2⟩ : ∃ s2 : S, s2 = { s1 with part := s1.part ++ f.data, frag := IntKind.i64.wrap (s1.frag + 1) } := ⟨_, rfl⟩
    obtain ⟨v2, hv2⟩ : ∃ v2 : V, v2 = { v with pt := x' } := ⟨_, rfl⟩
    have e2 : inS s1 f = if f.last then ({ s2 with part := [], msg := IntKind.i64.wrap (s2.msg + 1), frag := 0 }, [s2.part]) else (s2, []) := by
      unfold inS; rw [hb6, hb7, hb8, hs2]; rfl
    have hv2p : ∀ c, blk v2.pt = some c → blk v.pt = some c ∨ h1'.next ≤ c := by rw [hv2]; exact hev7.pt
    rw [← hs2, ← hv2] at hpl8 hev8 hq8
    rw [e2, ← hs2, ← hv2]
    clear hcl7 hpl7 hq7 e2 no
    refine AW_gen (fun fr' h' => fr'.n = 139 ∧ fr'.get 0 = some (.ptr p 0) ∧ fr'.get 1 = some (i64 wire) ∧ fr'.get 11 = some (.ptr h2'.next 0) ∧ fr'.get 13 = some .nilsl ∧ fr'.get 14 = some (.ptr p 11) ∧ h'.get h2'.next = .cells 52 (f.cells d) (some 0) ∧ PL h' p s2 v2 ∧ Ev h1' h' p v v2 ∧ h2'.next < h'.next)
      ⟨by simp [hn7], by simp [h07], by simp [h17], by simp [h117], by simp [h137], by simp [h147], hq8, hpl8, hev8, by simp; exact hlt7⟩ ?_
    clear hpl8 hev8 hq8 hev7 hs2 hv2
    rintro fr8 h8 ⟨hn8, h08, h18, h118, h138, h148, hq8, hpl8, hev8, hlt8⟩
    simp [hn8, h118, hq8, kseq_normal]
    refine Br.mk (fun hb9 => ?_) (fun hb9 => ?_)
    case refine_2 =>
      rw [if_neg (by simp [hb9])]
      simp [hn8, h08, h18, h138, kseq_normal]
      exact InQ.nil hpl8 hev8
    rw [if_pos hb9]
    obtain ⟨hy1, hy2, hy3⟩ := Sl.one hpl8.pt.sl
    obtain ⟨y, h9, hapy, hgy, hgry⟩ := app1 (h := h8) (t := 63) (v := v2.pt) (Gw.nil _ 34 1) sl63 sz34 by34 z34 rfl (by omega) (by rw [hy1]; rfl) (by omega) (by simp)
    have hp9 : Pres h8 h9 := ⟨hgry.next, fun c hc => hgry.keep c hc (by simp [blk])⟩
    rw [hy1] at hapy hgy
    have hcl8 := hpl8.cells
    have hpl9 := hpl8.pres hp9
    have hcl9 := hpl9.cells
    simp [hn8, h08, h138, hcl8, pbs_one sl63 sz34 z34 rfl (by omega) (by rw [hy1]; rfl) hy3, hy1, hapy]
    rw [kseq_normal]
    refine AW_gen (fun fr' h' => fr'.n = 139 ∧ fr'.get 0 = some (.ptr p 0) ∧ fr'.get 1 = some (i64 wire) ∧ fr'.get 13 = some y ∧ fr'.get 14 = some (.ptr p 11) ∧ h' = h9)
      ⟨by simp [hn8], by simp [h08], by simp [h18], by simp, by simp [h148], rfl⟩ ?_
    rintro fr9 h9' ⟨hn9, h09, h19, h139, h149, rfl⟩
    obtain ⟨hplA, hevA⟩ := hpl9.of_pt (x := .nilsl) (s' := { s2 with part := [] }) (h' := h9'.set p (.cells 56 (pcells s2 { v2 with pt := .nilsl }) (some 0))) (by simp) (fun c _ hne _ => by rw [AHeap.get_set, if_neg (Ne.symm hne)]) (by simp) (Gf.nil _ 5 1) (fun c hc => by simp [blk] at hc)
    simp [hn9, h09, hcl9, pst_pt s2 v2 (x := .nilsl) rfl rfl, kseq_normal, h149, pst_msg, pst_frag, h19, h139]
    have hplB := (hplA.put { s2 with part := [], msg := IntKind.i64.wrap (s2.msg + 1) }).put { s2 with part := [], msg := IntKind.i64.wrap (s2.msg + 1), frag := 0 }
    have hyp : ∀ c, blk y = some c → p ≠ c := fun c hc e => by
      rcases hgry.new c hc with e1 | e1
      · simp [blk] at e1
      · have := hpl8.lt; omega
    have hvp : ∀ c, blk v2.pt = some c → p ≠ c := fun c hc e => hpl8.away.pt (e ▸ hc)
    refine ⟨[v2.pt], _, ⟨Sl.keep hgy.sl (by simp) fun c hc _ => ?_, rfl, fun i d b hi hb => ?_⟩, fun c hc => ?_, fun d hd c hc => ?_, hplB, ?_, fun c hc e => ?_, fun d hd c hc => ?_⟩
    · rw [get_ne _ (hyp c hc), get_ne _ (hyp c hc), get_ne _ (hyp c hc)]
    · cases i with
      | succ i => simp at hi
      | zero =>
        simp at hi hb; subst hi; subst hb
        exact Sl.keep hpl9.pt.bs (by simp) fun c hc _ => by rw [get_ne _ (hvp c hc), get_ne _ (hvp c hc), get_ne _ (hvp c hc)]
    · rcases hgry.new c hc with e1 | e1
      · simp [blk] at e1
      · have := hev8.next; omega
    · simp at hd; subst hd; exact hv2p c hc
    · exact (hev8.trans (hp9.ev p v2)).trans (hevA.trans ((Ev.set _ _ _ _).trans (Ev.set _ _ _ _)))
    · have := hpl8.ak.blk_lt e
      rcases hgry.new c hc with e1 | e1
      · simp [blk] at e1
      · omega
    · simp at hd; subst hd
      refine ⟨hvp c hc, fun e => ?_⟩
      obtain ⟨_, t1⟩ := Gw.ty hpl8.pt.gw hc
      obtain ⟨_, t2⟩ := Gw.ty hpl8.ak e
      exact ne_ty t1 t2 (by decide) rfl
  rintro e fr9 h9 ⟨rfl, hn9, h09, h19, x, h139, ds, v', hb9, hfx, hds, hpl9, hev9, hxa, hda⟩
  have hal2 : (inS s1 f).1.acks.length ≤ 100000 := by
    unfold inS; repeat' split
    all_goals exact hal
  generalize inS s1 f = R at *
  obtain ⟨s2, l⟩ := R
  simp only at hb9 hpl9 hal2 ⊢
  rw [kseq_normal]
  simp only [AW_seq]
  have hcl9 := hpl9.cells
  obtain ⟨x', h10, hapx, hg10, hgr10⟩ := app1 (h := h9) (t := 54) (v := .agg (arow (wire, s2.msg, s2.frag))) hpl9.ak sl54 sz82 by82 z82 (by rfl) (by omega) (by rfl) (by omega) (by simp; omega)
  obtain ⟨hy1, hy2, hy3⟩ := Sl.one hg10.sl
  have hap : blk v'.ak ≠ some p := hpl9.away.ak
  have hc10 := (hgr10.keep p hpl9.lt hap).trans hcl9
  refine AW_region_d [.plain, .plain, .plain, .plain, .load [0], .plain, .plain, .plain, .plain, .load [0], .plain, .plain, .eff [], .plain, .plain, .eff []] (by kernel_rfl) (by kernel_rfl) ?_
  rw [arow_cells] at hapx hg10
  simp [hn9, h09, h19, hcl9, pb82_ack, pbs_one sl54 sz82 z82 rfl (by omega) (by rfl) (show allOne (.agg (arow (wire, s2.msg, s2.frag))) = true from rfl), arow_cells, hapx, hc10, pst_ak _ _ hy1 hy3, h139, kseq_normal]
  have hp10 : ∀ c, blk x' = some c → p ≠ c := fun c hc e => by
    rcases hgr10.new c hc with e1 | e1
    · exact hap (e ▸ e1)
    · have := hpl9.lt; omega
  obtain ⟨hplA, hevA⟩ := hpl9.of_ak (x := x') (s' := ackA s2 wire) (h' := h10.set p (.cells 56 (pcells s2 { v' with ak := x' }) (some 0))) (by simp; exact hgr10.next)
    (fun c hlt hne hb => by rw [AHeap.get_set, if_neg (Ne.symm hne)]; exact hgr10.keep c hlt hb) (by rw [AHeap.get_set, if_pos rfl]; rfl)
    (by have := hg10.keep (h' := h10.set p (.cells 56 (pcells s2 { v' with ak := x' }) (some 0))) (by simp) fun c hc _ => get_ne _ (hp10 c hc)
        simpa [ackA] using this) hgr10.new
  have kp : ∀ c, c < h9.next → p ≠ c → blk v'.ak ≠ some c → (h10.set p (.cells 56 (pcells s2 { v' with ak := x' }) (some 0))).get c = h9.get c := fun c hc hp ha => by rw [get_ne _ hp]; exact hgr10.keep c hc ha
  refine ⟨⟨x, ds, rfl, ⟨Sl.keep hb9.sl (by simp; exact hgr10.next) fun c hc hlt => kp c hlt (fun e => by have := hfx c hc; omega) (hxa c hc), hb9.len, fun i d b hi hb => Sl.keep (hb9.el i d b hi hb) (by simp; exact hgr10.next) fun c hc hlt => ?_⟩, hfx, hds⟩, _, hplA, hev9.trans hevA⟩
  have := hda d (List.mem_of_getElem? hi) c hc
  exact kp c hlt this.1 this.2
end Go.Eng.L35
