/- Law 35: do. -/
import Derived.Test.YtcjgagkkanokjabL35AD
namespace Go.Eng.L35
open Go.Proofs Go.Eng
/-- Both links, apart from each other. -/
structure Two (h : AHeap) (p q : Nat) (s r : S) (v u : V) : Prop where
  pl : PL h p s v
  rl : RL h q r u
  d1 : ∀ c, v.W p c ∨ blk v.pt = some c → ¬ (u.W q c ∨ u.R c ∨ blk u.pt = some c)
  d2 : ∀ c, u.W q c ∨ blk u.pt = some c → ¬ (v.W p c ∨ v.R c ∨ blk v.pt = some c)
theorem PL.blks {h : AHeap} {p : Nat} {s : S} {v : V} (hp : PL h p s v) : ∀ c, v.W p c ∨ v.R c ∨ blk v.pt = some c → c < h.next := by
  rintro c (hc | hc | hc)
  · exact V.W_lt hp.lt hp.up hp.un hp.ak c hc
  · exact hp.us.lt c hc
  · exact hp.pt.blk_lt hc
theorem RL.blks {h : AHeap} {p : Nat} {s : S} {v : V} (hp : RL h p s v) : ∀ c, v.W p c ∨ v.R c ∨ blk v.pt = some c → c < h.next := by
  rintro c (hc | hc | hc)
  · exact V.W_lt hp.lt hp.up hp.un hp.ak c hc
  · exact hp.us.lt c hc
  · exact Sl.blk_lt hp.pt hc
theorem Ev.all {h h' : AHeap} {p : Nat} {v v' : V} (he : Ev h h' p v v') : ∀ c, v'.W p c ∨ v'.R c ∨ blk v'.pt = some c → (v.W p c ∨ v.R c ∨ blk v.pt = some c) ∨ h.next ≤ c := by
  rintro c (hc | hc | hc)
  · exact (he.w c hc).imp_left .inl
  · exact (he.r c hc).imp_left fun x => .inr (.inl x)
  · exact (he.pt c hc).imp_left fun x => .inr (.inr x)
theorem Ev.wr {h h' : AHeap} {p : Nat} {v v' : V} (he : Ev h h' p v v') : ∀ c, v'.W p c ∨ blk v'.pt = some c → (v.W p c ∨ blk v.pt = some c) ∨ h.next ≤ c := by
  rintro c (hc | hc)
  · exact (he.w c hc).imp_left .inl
  · exact (he.pt c hc).imp_left .inr
theorem Two.p {h h' : AHeap} {p q : Nat} {s s' r : S} {v v' u : V} (t : Two h p q s r v u) (hp : PL h' p s' v') (he : Ev h h' p v v') : Two h' p q s' r v' u := by
  refine ⟨hp, t.rl.keep he.next fun c hc hu => he.keep c hc (fun hw => t.d1 c (.inl hw) hu) (fun hw => t.d1 c (.inr hw) hu), fun c hc hu => ?_, fun c hc hv => ?_⟩
  · rcases he.wr c hc with e | e
    · exact t.d1 c e hu
    · have := t.rl.blks c hu; omega
  · have hlt := t.rl.blks c (hc.imp_right .inr)
    rcases he.all c hv with e | e
    · exact t.d2 c hc e
    · omega
theorem Two.r {h h' : AHeap} {p q : Nat} {s r r' : S} {v u u' : V} (t : Two h p q s r v u) (hr : RL h' q r' u') (he : Ev h h' q u u') : Two h' p q s r' v u' := by
  refine ⟨t.pl.keep he.next fun c hc hu => he.keep c hc (fun hw => t.d2 c (.inl hw) hu) (fun hw => t.d2 c (.inr hw) hu), hr, fun c hc hu => ?_, fun c hc hv => ?_⟩
  · have hlt := t.pl.blks c (hc.imp_right .inr)
    rcases he.all c hu with e | e
    · exact t.d1 c hc e
    · omega
  · rcases he.wr c hc with e | e
    · exact t.d2 c e hv
    · have := t.pl.blks c hv; omega
theorem Two.pres {h h' : AHeap} {p q : Nat} {s r : S} {v u : V} (t : Two h p q s r v u) (hp : Pres h h') : Two h' p q s r v u := ⟨t.pl.pres hp, t.rl.pres hp, t.d1, t.d2⟩
/-- A block that no link touches. -/
def Out (p q : Nat) (v u : V) (c : Nat) : Prop := (¬ v.W p c ∧ blk v.pt ≠ some c) ∧ ¬ u.W q c ∧ blk u.pt ≠ some c
structure Kp (h h' : AHeap) (p q : Nat) (v u v' u' : V) : Prop where
  next : h.next ≤ h'.next
  get : ∀ c, c < h.next → Out p q v u c → h'.get c = h.get c
  out : ∀ c, c < h.next → Out p q v u c → Out p q v' u' c
theorem Kp.trans {h h1 h2 : AHeap} {p q : Nat} {v u v1 u1 v2 u2 : V} (a : Kp h h1 p q v u v1 u1) (b : Kp h1 h2 p q v1 u1 v2 u2) : Kp h h2 p q v u v2 u2 := by
  have hn := a.next
  exact ⟨Nat.le_trans a.next b.next, fun c hc ho => (b.get c (by omega) (a.out c hc ho)).trans (a.get c hc ho), fun c hc ho => b.out c (by omega) (a.out c hc ho)⟩
theorem Kp.p {h h' : AHeap} {p q : Nat} {v v' u : V} (he : Ev h h' p v v') : Kp h h' p q v u v' u :=
  ⟨he.next, fun c hc ho => he.keep c hc ho.1.1 ho.1.2, fun c hc ho => ⟨⟨fun hw => (he.w c hw).elim ho.1.1 fun e => by omega, fun hw => (he.pt c hw).elim ho.1.2 fun e => by omega⟩, ho.2⟩⟩
theorem Kp.r {h h' : AHeap} {p q : Nat} {v u u' : V} (he : Ev h h' q u u') : Kp h h' p q v u v u' :=
  ⟨he.next, fun c hc ho => he.keep c hc ho.2.1 ho.2.2, fun c hc ho => ⟨ho.1, fun hw => (he.w c hw).elim ho.2.1 fun e => by omega, fun hw => (he.pt c hw).elim ho.2.2 fun e => by omega⟩⟩
theorem Kp.pres {h h' : AHeap} {p q : Nat} {v u : V} (hp : Pres h h') : Kp h h' p q v u v u := ⟨hp.1, fun c hc _ => hp.2 c hc, fun _ _ ho => ho⟩
theorem Kp.bs {h h' : AHeap} {p q : Nat} {v u v' u' : V} (k : Kp h h' p q v u v' u') {n : Nat} {d : AV} {l : List (List AV)} (hd : Sl h n d l) (ho : ∀ c, blk d = some c → Out p q v u c) : Sl h' n d l ∧ ∀ c, blk d = some c → Out p q v' u' c :=
  ⟨Sl.keep hd k.next fun c hc hl => k.get c hl (ho c hc), fun c hc => k.out c (hd.blk_lt hc) (ho c hc)⟩
/-- A call that writes what is the link's alone. -/
theorem ev_set {h h' : AHeap} {p : Nat} {v : V} (hn : h'.next = h.next) (hk : ∀ d, ¬ v.W p d → h'.get d = h.get d) : Ev h h' p v v := ⟨by omega, fun c _ hw _ => hk c hw, fun _ h => .inl h, fun _ h => .inl h, fun _ h => .inl h⟩
/-- A block that is newer than both links. -/
theorem Two.out {h : AHeap} {p q : Nat} {s r : S} {v u : V} (t : Two h p q s r v u) {c : Nat} (hc : h.next ≤ c) : Out p q v u c :=
  ⟨⟨fun hw => by have := t.pl.blks c (.inl hw); omega, fun hw => by have := t.pl.blks c (.inr (.inr hw)); omega⟩, fun hw => by have := t.rl.blks c (.inl hw); omega, fun hw => by have := t.rl.blks c (.inr (.inr hw)); omega⟩
theorem Bss.keep {h h' : AHeap} {x : AV} {ds : List AV} {l : List (List UInt8)} (hb : Bss h x ds l) (hn : h.next ≤ h'.next) (hk : ∀ c, (blk x = some c ∨ ∃ d ∈ ds, blk d = some c) → c < h.next → h'.get c = h.get c) : Bss h' x ds l :=
  ⟨Sl.keep hb.sl hn fun c hc hl => hk c (.inl hc) hl, hb.len, fun i d b hi hbb => Sl.keep (hb.el i d b hi hbb) hn fun c hc hl => hk c (.inr ⟨d, List.mem_of_getElem? hi, hc⟩) hl⟩
theorem inS_len (s : S) (f : Fm) : (∀ b ∈ (inS s f).2, b.length ≤ 4096) ∧ (inS s f).2.length ≤ 1 := by
  unfold inS
  split
  · rename_i hb
    have hl : s.part.length + f.data.length ≤ 4096 := by
      simp only [Bool.and_eq_true, Bool.not_eq_true', ilt_false] at hb
      omega
    split
    · exact ⟨fun b hb => by simp at hb; subst hb; simp; exact hl, by simp⟩
    · simp
  · simp
theorem inR_len (ack : S → Int → Int → S) (s : S) (wire now : Int) (bs : List UInt8) : (∀ b ∈ (inR ack s wire bs now).2, b.length ≤ 4096) ∧ (inR ack s wire bs now).2.length ≤ 1 := by
  unfold inR
  split
  · split
    · simp
    · exact inS_len _ _
  · simp
theorem encO_len (f : Fm) : (encO f).length ≤ 24 + f.data.length := by
  unfold encO
  split
  · simp [encB, head16_len, beB_len]; omega
  · simp
theorem fold_mem (q : Int) (ups : List Nat) (rs : Bool) : ∀ (us : List U) (r : Int × List (Int × List UInt8)) (x : Int × List UInt8), x ∈ (us.foldl (outF q ups rs) r).2 → x ∈ r.2 ∨ ∃ u ∈ us, x.2 = encO (frmU u)
  | [], r, x, h => .inl h
  | u :: us, r, x, h => by
    rw [List.foldl_cons] at h
    rcases fold_mem q ups rs us _ x h with h | ⟨w, hw, e⟩
    · unfold outF at h
      split at h
      · rcases List.mem_append.1 h with h | h
        · exact .inl h
        · obtain ⟨w, _, rfl⟩ := List.mem_map.1 h
          exact .inr ⟨u, List.mem_cons_self, rfl⟩
      · exact .inl h
    · exact .inr ⟨w, List.mem_cons_of_mem _ hw, e⟩
theorem usb_len (l : List Bool) : (usb l).length ≤ l.length := usbT_len l l.length
theorem Inv.frames {k sz : Nat} {s : S} (h : Inv k sz s) (hk : k ≤ 1000) (now : Int) : (∀ x ∈ (outR s now).2.1, x.2.length ≤ 100000000) ∧ (outR s now).2.1.length ≤ 1000000 := by
  unfold outR
  split
  · split
    · simp
    · split
      · simp
      · obtain ⟨s3, hs3⟩ : ∃ s3 : S, s3 = { s with clock := now, acks := [], repeats := (if resR s now then IntKind.i64.wrap (s.repeats + 1) else s.repeats) } := ⟨_, rfl⟩
        have eF : (s.units.take 8).foldl (outF s.quality (usb s.up) (resR s now)) (s.turn, s.acks.map (ackO s.up (usb s.up))) = finF s3 (usb s.up) (resR s now) (s.acks.map (ackO s.up (usb s.up))) 8 := by unfold finF; rw [hs3]
        rw [eF]
        refine ⟨fun x hx => ?_, ?_⟩
        · have h3 : ∀ u ∈ s3.units.take 8, u.data.length ≤ 4096 := fun u hu => by rw [hs3] at hu; exact h.us.ud u (List.mem_of_mem_take hu)
          rcases fold_mem _ _ _ _ _ x hx with hx | ⟨u, hu, e⟩
          · obtain ⟨a, _, rfl⟩ := List.mem_map.1 hx
            have := encO_len ⟨2, false, a.2.1, a.2.2, []⟩
            simp only [ackO]; simp at this; omega
          · rw [e]
            have := encO_len (frmU u)
            have := h3 u hu
            simp only [frmU] at *; omega
        · rw [finF_min]
          have e3 : s3.turn = s.turn := by rw [hs3]
          have hb := (finF_bound (s3 := s3) (ups := usb s.up) (rs := resR s now) (o1 := s.acks.map (ackO s.up (usb s.up))) ⟨by rw [e3]; exact h.t0, by have := h.t1; rw [e3]; omega⟩ (N := min 8 s3.units.length) (Nat.min_le_right _ _) (Nat.min_le_left _ _)).2.2
          have h1 := usb_len s.up
          have h2 := h.up8
          have h4 := h.al
          have : min 8 s3.units.length * (usb s.up).length ≤ 8 * 8 := Nat.mul_le_mul (Nat.min_le_left _ _) (by omega)
          simp only [List.length_map] at hb
          show (finF s3 (usb s.up) (resR s now) (s.acks.map (ackO s.up (usb s.up))) (min 8 s3.units.length)).2.length ≤ _
          omega
  · simp
abbrev opCells (kind wire now : Int) (flag : Bool) (d : AV) : List AV := [i64 kind, i64 wire, .bool flag, d, i64 now]
variable [O35]
/-- What Send of the program does. -/
def SendSpec : Prop := ∀ {h : AHeap} {p : Nat} {s : S} {v : V} {x : AV} {bs : List UInt8} {sz : Nat} (now : Int), PL h p s v → Bs h x bs → (∀ c, blk x = some c → ¬ v.W p c ∧ blk v.pt ≠ some c) → s.size = 24 + (sz : Int) → 0 < sz → sz ≤ 1000000 → s.units.length ≤ 50000 →
    Ca Try.prog 10 [.ptr p 0, x, i64 now] h fun r h' => r = .tuple [i64 (sendR s sz bs now).2.1, i64 (sendR s sz bs now).2.2] ∧ ∃ v', PL h' p (sendR s sz bs now).1 v' ∧ Ev h h' p v v'
theorem do_sp (hsend : SendSpec) {h : AHeap} {p q : Nat} {s : S} {v u : V} {k sz : Nat} {kind wire now : Int} {flag : Bool} {d : AV} {bs : List UInt8} (t : Two h p q s s v u) (inv : Inv k sz s) (hk : k ≤ 80) (hd : Bs h d bs) (hdo : ∀ c, blk d = some c → Out p q v u c) (hl : bs.length ≤ 1000000) :
    Ca Try.prog 8 [.ptr p 0, .ptr q 0, .agg (opCells kind wire now flag d)] h fun r h' => r = .bool true ∧ ∃ s' v' u', Two h' p q s' s' v' u' ∧ Inv (k + 1) sz s' ∧ Kp h h' p q v u v' u' := by
  refine ci Try.func8 rfl (by decide) ?_
  intro fr hn hg
  replace hn : fr.n = 122 := hn
  have h0 : fr.get 0 = some (.ptr p 0) := hg 0 (by simp)
  have h1 : fr.get 1 = some (.ptr q 0) := hg 1 (by simp)
  have h2 : fr.get 2 = some (.agg (opCells kind wire now flag d)) := hg 2 (by simp)
  clear hg
  show AW _ _ _ _ _
  obtain ⟨hd1, hd2, _⟩ := hd.one
  have hp1 : Pres h (h.new (.cells 36 (opCells kind wire now flag d) (some 0))) := (Pres.refl h).new _
  simp [hn, h2, hd2]
  rw [kseq_normal]
  refine AW_gen (fun fr' h' => fr'.n = 122 ∧ fr'.get 0 = some (.ptr p 0) ∧ fr'.get 1 = some (.ptr q 0) ∧ fr'.get 5 = some (.ptr h.next 0) ∧ h'.get h.next = .cells 36 (opCells kind wire now flag d) (some 0) ∧ h.next < h'.next ∧ Pres h h') ⟨by simp [hn], by simp [h0], by simp [h1], by simp, by simp, by simp, hp1⟩ ?_
  clear hn h0 h1 h2 hp1
  rintro fr1 h1 ⟨hn, h0, h1', h5, hb, hlt, hp1⟩
  have t1 := t.pres hp1
  have hob : Out p q v u h.next := t.out (Nat.le_refl _)
  have hd1' := hd.pres hp1
  have hK1 : Kp h h1 p q v u v u := Kp.pres hp1
  simp [hn, h5, hb]
  rw [kseq_normal]
  have i00 : ∀ x : Int, ieq x x = true := fun x => ieq_true.2 rfl
  simp [hn, kseq_normal]
  have hbb : ∀ {h' : AHeap} {v' u' : V}, Kp h1 h' p q v u v' u' → h'.get h.next = .cells 36 (opCells kind wire now flag d) (some 0) := fun kp => (kp.get _ hlt hob).trans hb
  refine Br.mk (fun hk0 => ?_) (fun hk0 => ?_)
  · refine AW_region_d [.plain, .plain, .load [0], .plain, .load [0], .eff [], .plain, .plain, .load [0, 6], .plain, .load [0, 6], .eff [], .plain, .plain] (by kernel_rfl) (by kernel_rfl) ?_
    simp [hn, h0, h1', h5, hb]
    refine (pset_sp t1.pl wire flag).mono ?_
    rintro r h2 ⟨rfl, hpl2, hn2, hk2⟩
    have he2 := ev_set (v := v) hn2 hk2
    have t2 := t1.p hpl2 he2
    have hK2 := Kp.p (q := q) (u := u) he2
    have hb2 := hbb hK2
    simp [hn, h0, h1', h5, hb, hb2]
    refine (rset_sp t2.rl wire flag).mono ?_
    rintro r h3 ⟨rfl, hrl3, hn3, hk3⟩
    have he3 := ev_set (v := u) hn3 hk3
    have t3 := t2.r hrl3 he3
    simp [hn, i00, kseq_normal]
    exact ⟨_, _, _, t3, (inv.set wire flag).more, hK1.trans (hK2.trans (Kp.r he3))⟩
  simp [hn, kseq_normal]
  refine Br.mk (fun hk1 => ?_) (fun hk1 => ?_)
  · refine AW_region_d [.plain, .plain, .load [0], .eff [], .plain, .load [0, 4], .eff [], .plain, .plain, .plain, .plain, .plain] (by kernel_rfl) (by kernel_rfl) ?_
    simp [hn, h0, h1', h5, hb]
    refine (clone_sp h1 d bs hd1' (by omega)).mono ?_
    rintro c h2 ⟨hg2, hp2, hf2⟩
    have t2 := t1.pres hp2
    have hK2 : Kp h1 h2 p q v u v u := Kp.pres hp2
    have hb2 := hbb hK2
    simp [hn, h0, h1', h5, hb, hb2]
    refine (hsend (sz := sz) now t2.pl hg2.bs (fun e he => (t1.out (hf2 e he)).1) inv.size (by have := inv.sz1; omega) (by have := inv.sz2; omega) (by have := inv.ul; omega)).mono ?_
    rintro r h3 ⟨rfl, v3, hpl3, he3⟩
    have t3 := t2.p hpl3 he3
    have hK3 := hK2.trans (Kp.p (q := q) (u := u) he3)
    have hb3 := hbb hK3
    obtain ⟨hd3, ho3⟩ := (hK1.trans hK3).bs hd hdo
    simp [hn, h0, h1', h5, hb3, kseq_normal]
    refine (rsend_sp (sz := sz) t3.rl now hd3 (fun e he => (ho3 e he).2) inv.size (by have := inv.sz1; omega) (by have := inv.sz2; omega) (by have := inv.ul; omega)).mono ?_
    rintro r h4 ⟨rfl, u4, hrl4, he4⟩
    have t4 := t3.r hrl4 he4
    simp [hn, i00, kseq_normal]
    exact ⟨_, _, _, t4, inv.send bs now, hK1.trans (hK3.trans (Kp.r he4))⟩
  simp [hn, kseq_normal]
  refine Br.mk (fun hk2 => ?_) (fun hk2 => ?_)
  · refine AW_region_d [.plain, .plain, .load [0], .plain, .load [0], .eff [2], .plain, .load [0, 6], .eff [], .plain, .plain, .plain, .plain, .plain] (by kernel_rfl) (by kernel_rfl) ?_
    simp [hn, h0, h1', h5, hb]
    refine (clone_sp h1 d bs hd1' (by omega)).mono ?_
    rintro c h2 ⟨hg2, hp2, hf2⟩
    have t2 := t1.pres hp2
    have hK2 : Kp h1 h2 p q v u v u := Kp.pres hp2
    have hb2 := hbb hK2
    simp [hn, h0, h1', h5, hb, hb2]
    refine (pin_sp t2.pl wire now hg2.bs (by omega) (by have := inv.ul; omega) (by have := inv.al; omega) inv.pt (by have := inv.up8; omega)).mono ?_
    rintro r h3 ⟨⟨x1, ds1, rfl, hx1, hfx1, hds1⟩, v3, hpl3, he3⟩
    have t3 := t2.p hpl3 he3
    have hK3 := hK2.trans (Kp.p (q := q) (u := u) he3)
    have hb3 := hbb hK3
    obtain ⟨hd3, ho3⟩ := (hK1.trans hK3).bs hd hdo
    simp [hn, h0, h1', h5, hb3, kseq_normal]
    refine (rin_sp t3.rl wire now hd3 (by omega) (by have := inv.ul; omega) (by have := inv.al; omega) inv.pt (by have := inv.up8; omega)).mono ?_
    rintro r h4 ⟨⟨x2, ds2, rfl, hx2, hfx2, hds2⟩, u4, hrl4, he4⟩
    have t4 := t3.r hrl4 he4
    have hackP : inR ackR s wire bs now = inR ackP s wire bs now := by
      unfold inR
      have hi : Inv k sz { s with clock := now } := inv.keep
      rw [ack_same hi.us hi.s1]
    simp [hn, i00, kseq_normal]
    rw [hackP] at hx2 t4
    have okc : ∀ c, (blk v.pt = some c ∨ h2.next ≤ c) → ¬ u.W q c ∧ blk u.pt ≠ some c := fun c hc => by
      rcases hc with hc | hc
      · exact ⟨fun hw => t2.d1 c (.inr hc) (.inl hw), fun hw => t2.d1 c (.inr hc) (.inr (.inr hw))⟩
      · exact (t2.out hc).2
    have hx1' := hx1.keep he4.next fun c hc hlt => by
      have : ¬ u.W q c ∧ blk u.pt ≠ some c := by
        rcases hc with hc | ⟨e, hm, hc⟩
        · exact okc c (.inr (hfx1 c hc))
        · exact okc c (hds1 e hm c hc)
      exact he4.keep c hlt this.1 this.2
    obtain ⟨hl1, hl2⟩ := inR_len ackP s wire now bs
    refine (eqf20_sp hx1' hx2 (fun b hb => by have := hl1 b hb; omega) (by omega)).mono ?_
    rintro r h5 ⟨rfl, rfl⟩
    simp [hn, i00, kseq_normal]
    exact ⟨_, _, _, t4, inv.input wire now bs, hK1.trans (hK3.trans (Kp.r he4))⟩
  simp [hn, kseq_normal]
  refine Br.mk (fun hk3 => ?_) (fun hk3 => ?_)
  · simp [hn, h0, h1', h5, hb, kseq_normal]
    have hud : ∀ u ∈ s.units, u.data.length ≤ 1000000 := fun u hu => by have := inv.us.ud u hu; omega
    have htn : 0 ≤ s.turn ∧ s.turn ≤ 900000 := ⟨inv.t0, by have := inv.t1; omega⟩
    refine (pout_sp t1.pl now (by have := inv.ul; omega) (by have := inv.al; omega) inv.up8 hud inv.aw htn).mono ?_
    rintro r h3 ⟨⟨x1, tt1, rfl, hx1, hm1⟩, v3, hpl3, he3⟩
    have t3 := t1.p hpl3 he3
    have hK3 := Kp.p (q := q) (u := u) he3
    have hb3 := hbb hK3
    simp [hn, h0, h1', h5, hb3, kseq_normal]
    refine (rout_sp t3.rl now (by have := inv.ul; omega) (by have := inv.al; omega) inv.up8 hud inv.aw htn inv.q).mono ?_
    rintro r h4 ⟨⟨x2, tt2, rfl, hx2, hm2⟩, u4, hrl4, he4⟩
    have t4 := t3.r hrl4 he4
    have hx1' : Outs 48 h1.next h4 x1 tt1 := hx1.keep he4.next fun c hc hlt => he4.keep c hlt (t1.out hc).2.1 (t1.out hc).2.2
    simp [hn, i00, kseq_normal]
    refine (out_sp hx1' hx2 (by rw [hm1, hm2]) ?_ ?_).mono ?_
    · obtain ⟨hf, _⟩ := inv.frames (by omega) now
      rw [← hm1] at hf
      exact fun q hq => hf _ (List.mem_map.2 ⟨q, hq, rfl⟩)
    · obtain ⟨_, hf⟩ := inv.frames (by omega) now
      rw [← hm1] at hf
      simpa using hf
    rintro r h5' ⟨rfl, hp5⟩
    simp [hn, i00, kseq_normal]
    exact ⟨_, _, _, t4.pres hp5, inv.output (by omega) now, hK1.trans ((hK3.trans (Kp.r he4)).trans (Kp.pres hp5))⟩
  · simp [hn, kseq_normal]
    exact ⟨s, v, u, t1, inv.more, hK1⟩
end Go.Eng.L35
/- Law 35: seen, long. -/
namespace Go.Eng.L35
open Go.Proofs Go.Eng
variable [O35]
theorem seen_sp {h : AHeap} {p q : Nat} {s : S} {v u : V} (t : Two h p q s s v u) (hl : s.units.length ≤ 1000000) : Ca Try.prog 9 [.ptr p 0, .ptr q 0] h fun r h' => r = .bool true ∧ Pres h h' := by
  refine ci Try.func9 rfl (by decide) ?_
  intro fr hn hg
  replace hn : fr.n = 41 := hn
  have h0 : fr.get 0 = some (.ptr p 0) := hg 0 (by simp)
  have h1 : fr.get 1 = some (.ptr q 0) := hg 1 (by simp)
  clear hg
  show AW _ _ _ _ _
  have i00 : ∀ x : Int, ieq x x = true := fun x => ieq_true.2 rfl
  simp [hn, h0, kseq_normal]
  refine (pnext_sp t.pl hl).mono ?_
  rintro r h2 ⟨rfl, hp2⟩
  have t2 := t.pres hp2
  simp [hn, h1, kseq_normal]
  refine (rnext_sp t2.rl hl).mono ?_
  rintro r h3 ⟨rfl, hp3⟩
  have t3 := t2.pres hp3
  simp [hn, h0, h1, i00, kseq_normal]
  refine (pack_sp t3.pl).mono ?_
  rintro r h4 ⟨rfl, rfl⟩
  simp [hn, h0, h1, i00, kseq_normal]
  refine (rack_sp t3.rl).mono ?_
  rintro r h5 ⟨rfl, rfl⟩
  simp [hn, h0, h1, i00, kseq_normal]
  refine (pbrk_sp t3.pl).mono ?_
  rintro r h6 ⟨rfl, rfl⟩
  simp [hn, h0, h1, i00, kseq_normal]
  refine (rbrk_sp t3.rl).mono ?_
  rintro r h7 ⟨rfl, rfl⟩
  simp [hn, h0, h1, i00, kseq_normal]
  exact hp2.trans hp3
/-- A call that the law is handed. -/
structure OpV where
  kind : Int
  wire : Int
  now : Int
  flag : Bool
  d : AV
  bs : List UInt8
abbrev OpV.row (o : OpV) : List AV := opCells o.kind o.wire o.now o.flag o.d
def opSum (l : List OpV) : Nat := (l.map fun o => o.bs.length).sum
omit [O35] in
theorem opSum_le {l : List OpV} {o : OpV} (ho : o ∈ l) : o.bs.length ≤ opSum l := by
  induction l with
  | nil => cases ho
  | cons a l ih =>
    rcases List.mem_cons.1 ho with rfl | ho
    · simp [opSum]
    · have := ih ho; simp [opSum] at *; omega
omit [O35] in
theorem opSum_succ {l : List OpV} {k : Nat} (hk : k < l.length) : opSum (l.take (k + 1)) = opSum (l.take k) + l[k].bs.length := by
  unfold opSum
  rw [List.take_add_one, List.getElem?_eq_getElem hk]
  show (List.map _ (_ ++ [_])).sum = _
  rw [List.map_append, List.sum_append]; simp
omit [O35] in
theorem opSum_bound {l : List OpV} (hb : ∀ o ∈ l, o.bs.length ≤ 140737488355328) : opSum l ≤ l.length * 140737488355328 := by
  induction l with
  | nil => simp [opSum]
  | cons a l ih =>
    have h1 := ih fun o ho => hb o (List.mem_cons_of_mem _ ho)
    have h2 := hb a List.mem_cons_self
    simp only [opSum, List.map_cons, List.sum_cons, List.length_cons, Nat.succ_mul] at *
    omega
theorem long_sp {h : AHeap} {x : AV} {ops : List OpV} (hs : Sl h 5 x (ops.map OpV.row)) (hb : ∀ o ∈ ops, Bs h o.d o.bs ∧ o.bs.length ≤ 140737488355328) (hl : ops.length ≤ 140737488355328) :
    Ca Try.prog 4 [x] h fun r h' => (∃ b, r = .bool b ∧ (b = false → ops.length ≤ 80 ∧ ∀ o ∈ ops, o.bs.length ≤ 12000)) ∧ Pres h h' := by
  refine ci Try.func4 rfl (by decide) ?_
  intro fr hn hg
  replace hn : fr.n = 25 := hn
  have h0 : fr.get 0 = some x := hg 0 (by simp)
  clear hg
  show AW _ _ _ _ _
  have hxl : plen Try.prog 24 x = some (i64 (ops.length : Int)) := by have := hs.len sl24; simpa using this
  simp [hn, h0, hxl, kseq_normal]
  refine AW_cut_x 0 (fun fr' h' => ∃ n : Int, fr'.get 3 = some (i64 n) ∧ (ops.length ≤ 80 → n = (opSum ops : Int)) ∧ Pres h h') ?_ ?_
  · refine AW_loop_fr (fun m fr' h' => ∃ (k : Nat) (n : Int), m = ops.length - k ∧ k ≤ ops.length ∧ fr'.get 8 = some (i64 (k : Nat)) ∧ fr'.get 3 = some (i64 n) ∧ (ops.length ≤ 80 → n = (opSum (ops.take k) : Int)) ∧ Pres h h') ops.length
      ⟨0, 0, by simp, by omega, by simp, by simp, fun _ => by simp [opSum], Pres.refl h⟩ ?_
    rintro J hJ m fr' h' ⟨k, n, rfl, hk, h8, h3, hsum, hp⟩ hfr
    have hn' : fr'.n = 25 := hfr.1.trans (by simp [hn])
    have h6 : fr'.get 6 = some x := (hfr.2 6 (by kernel_rfl)).trans (by simp)
    have h7 : fr'.get 7 = some (i64 (ops.length : Int)) := (hfr.2 7 (by kernel_rfl)).trans (by simp)
    clear hfr
    simp [hn', h7, h8, kseq_normal]
    refine Br.mk (fun hc => ?_) (fun hc => ?_)
    · have hk1 : k < ops.length := by rw [ilt_true] at hc; omega
      obtain ⟨b, o, _, hix, _, hag, _⟩ := Sl.at_blk (hs.pres hp) sl24 sz36 k (by simpa using hk1)
      have hag := hag ag36
      rw [List.getElem_map] at hag
      obtain ⟨hob, hol⟩ := hb ops[k] (List.getElem_mem _)
      obtain ⟨q1, q2, q3⟩ := hob.one
      have hdl : plen Try.prog 34 ops[k].d = some (i64 (ops[k].bs.length : Int)) := hob.len
      have hss := opSum_succ hk1
      have hpz : Pres h' ((h'.new (.cells 36 [i64 0, i64 0, .bool false, .nilsl, i64 0] (some 0))).set h'.next (.cells 36 ops[k].row (some 0))) := ((Pres.refl h').new _).set (Nat.le_refl _) _
      have hbd := opSum_bound (l := ops.take (k + 1)) fun o ho => (hb o (List.mem_of_mem_take ho)).2
      have htl : (ops.take (k + 1)).length = k + 1 := by simp; omega
      rw [htl] at hbd
      generalize ops[k] = op at *
      simp [hn', h6, h7, h8, h3, hix, hag, stc_all sz36, q2, hdl, kseq_normal]
      rw [kloop_normal]
      refine ⟨ops.length - (k + 1), by omega, hJ _ _ _ ⟨k + 1, IntKind.i64.wrap (n + (op.bs.length : Int)), rfl, hk1, by simp [wrap_nat k (by omega)], by simp, fun h80 => ?_, hp.trans hpz⟩⟩
      have h1 := hsum h80
      have h2 : (k + 1) * 140737488355328 ≤ 80 * 140737488355328 := Nat.mul_le_mul_right _ (by omega)
      rw [h1, hss, wrap_in (by omega)]; omega
    · have : k = ops.length := by rw [ilt_false] at hc; omega
      subst this
      rw [List.take_length] at hsum
      simp [hn', h3, kseq_normal]
      exact ⟨hsum, hp⟩
  rintro fr2 h2 ⟨n, h3, hsum, hp⟩ hfr
  have hn' : fr2.n = 25 := hfr.1.trans (by simp [hn])
  have h0' : fr2.get 0 = some x := (hfr.2 0 (by kernel_rfl)).trans (by simp [h0])
  clear hfr
  rw [kblock_exit_eq, kseq_normal]
  simp [hn', h0', hxl, kseq_normal]
  refine Br.mk (fun hc => ?_) (fun hc => ?_)
  · simp [hn', hc, kseq_normal]
    exact hp
  · simp [hn', hc, h3, kseq_normal]
    refine ⟨?_, hp⟩
    cases hc2 : ilt 12000 n with
    | true => right; rfl
    | false =>
      left
      refine ⟨rfl, ?_⟩
      have h80 : ops.length ≤ 80 := by rw [ilt_false] at hc; omega
      have e := hsum h80
      rw [e, ilt_false] at hc2
      exact ⟨h80, fun o ho => by have := opSum_le ho; omega⟩
end Go.Eng.L35
