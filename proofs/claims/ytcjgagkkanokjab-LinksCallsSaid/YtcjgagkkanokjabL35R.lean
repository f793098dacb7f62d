/- Law 35: Input of the reference. -/
import Derived.Test.YtcjgagkkanokjabL35Q
namespace Go.Eng.L35
open Go.Proofs Go.Eng
theorem pb92_ack (m k : Int) : pbuild Try.prog 92 [(0, i64 2), (2, i64 m), (3, i64 k)] = some (.agg [i64 2, .bool false, i64 m, i64 k, .nilsl]) := by rw [pb92]; rfl
theorem pb103_ack (a m k : Int) : pbuild Try.prog 103 [(0, i64 a), (1, .agg [i64 2, .bool false, i64 m, i64 k, .nilsl])] = some (.agg (arow (a, m, k))) := by rw [pb103]; rfl
theorem pbs63_0 : pbs Try.prog 63 0 [] = some (34, [], .sl 0 0) := by kernel_rfl
theorem Bss.empty (h : AHeap) : Bss (h.new (.cells 34 [] (some 0))) (.sl h.next 0 0 0 (.at_ 0)) [] [] := ⟨(Gf.empty (n := 1)).sl, rfl, fun i d b hd => by simp at hd⟩
variable [O35]
theorem rin_sp {h : AHeap} {p : Nat} {s : S} {v : V} {x : AV} {bs : List UInt8} (hp : RL h p s v) (wire now : Int) (hx : Bs h x bs) (hl : bs.length ≤ 100000000) (hul : s.units.length ≤ 100000) (hal : s.acks.length ≤ 100000) (hpl0 : s.part.length ≤ 4096) (hupl : s.up.length ≤ 1000) :
    Ca Try.prog 19 [.ptr p 0, i64 wire, x, i64 now] h fun r h' => inA h h' v (inR ackR s wire bs now).2 (inE s wire bs now) r ∧ ∃ v', RL h' p (inR ackR s wire bs now).1 v' ∧ Ev h h' p v v' := by
  refine ci Try.func19 rfl (by decide) ?_
  intro fr hn hg
  replace hn : fr.n = 142 := hn
  have h0 : fr.get 0 = some (.ptr p 0) := hg 0 (by simp)
  have h1 : fr.get 1 = some (i64 wire) := hg 1 (by simp)
  have h2 : fr.get 2 = some x := hg 2 (by simp)
  have h3 : fr.get 3 = some (i64 now) := hg 3 (by simp)
  clear hg
  show AW _ _ _ _ _
  have hcl := hp.cells
  obtain ⟨z, cap, cs, hup, _⟩ := hp.up
  have hul8 : plen Try.prog 49 v.up = some (i64 (s.up.length : Int)) := by rw [hup]; simp [plen, sl49]
  have bad : ∀ e, inE s wire bs now = e → ieq e 0 = false → inA h h v (inR ackR s wire bs now).2 (inE s wire bs now) (.tuple [.nilsl, i64 e]) ∧ ∃ v', RL h p (inR ackR s wire bs now).1 v' ∧ Ev h h p v v' := fun e he h0 => by
    have : inR ackR s wire bs now = (s, []) := by unfold inR; rw [he, h0]; rfl
    rw [this, he]; exact ⟨inA.nil h h v e, v, hp, Ev.refl h p v⟩
  simp [hn, h0, h1, hcl, hul8, kseq_normal]
  refine Br.mk (fun hb1 => ?_) (fun hb1 => ?_)
  · simp [hn, hb1, kseq_normal]
    exact bad 3 (by unfold inE; rw [hb1]; rfl) rfl
  simp [hn, h0, h1, hb1, hcl, hul8, kseq_normal]
  refine Br.mk (fun hb2 => ?_) (fun hb2 => ?_)
  case refine_2 =>
    simp [hn, kseq_normal]
    exact bad 3 (by unfold inE; rw [hb1, hb2]; rfl) rfl
  simp [hn, h0, h3, kseq_normal]
  refine (rtime_sp hp now).mono ?_
  rintro r h1' ⟨rfl, rfl⟩
  simp [hn, kseq_normal]
  refine Br.mk (fun hb3 => ?_) (fun hb3 => ?_)
  case refine_2 =>
    simp [hn, kseq_normal]
    exact bad _ (by unfold inE; rw [hb1, hb2, hb3]; rfl) hb3
  simp [hn, h2, kseq_normal]
  refine (rdec_sp _ x bs hx hl).mono ?_
  rintro r h2' ⟨d, rfl, hd, hp2, hfd⟩
  have hE : inE s wire bs now = decE bs := by unfold inE; rw [hb1, hb2, hb3]; rfl
  obtain ⟨hd1, hd2, hd3⟩ := hd.one
  rw [hE] at bad ⊢
  simp [hn, stc_all sz92, hd2]
  rw [kseq_normal]
  have hpF : Pres h1' ((h2'.new (.cells 92 [i64 0, .bool false, i64 0, i64 0, .nilsl] (some 0))).set h2'.next (.cells 92 ((decO bs).cells d) (some 0))) := (hp2.new _).set hp2.1 _
  have hpF2 : Pres h2' ((h2'.new (.cells 92 [i64 0, .bool false, i64 0, i64 0, .nilsl] (some 0))).set h2'.next (.cells 92 ((decO bs).cells d) (some 0))) := ((Pres.refl h2').new _).set (Nat.le_refl _) _
  refine AW_gen (fun fr' h' => fr'.n = 142 ∧ fr'.get 0 = some (.ptr p 0) ∧ fr'.get 1 = some (i64 wire) ∧ fr'.get 3 = some (i64 now) ∧ fr'.get 11 = some (.ptr h2'.next 0) ∧ fr'.get 12 = some (i64 (decE bs)) ∧ h'.get h2'.next = .cells 92 ((decO bs).cells d) (some 0) ∧ h'.next = h2'.next + 1 ∧ Pres h1' h' ∧ Pres h2' h') ⟨by simp [hn], by simp [h0], by simp [h1], by simp [h3], by simp, by simp, by simp, by simp, hpF, hpF2⟩ ?_
  rintro fr3 h3' ⟨hn3, h03, h13, h33, h113, h123, hq, hnq, hp3, hp23⟩
  clear hpF hpF2
  simp [hn3, h123, kseq_normal]
  refine Br.mk (fun hb4 => ?_) (fun hb4 => ?_)
  case refine_2 =>
    simp [hn3, h123, kseq_normal]
    have : inR ackR s wire bs now = (s, []) := by unfold inR; rw [hE, hb4]; rfl
    rw [this]; exact ⟨inA.nil _ _ v _, v, hp.pres hp3, hp3.ev p v⟩
  have e0 : decE bs = 0 := ieq_true.1 hb4
  have hpn := hp.lt
  have hpl3 := hp.pres hp3
  have hcl3 := hpl3.cells
  have hne : (h2'.next = p) = False := eq_false (by have := hp2.1; omega)
  have hne2 : (p = h2'.next) = False := eq_false (by have := hp2.1; omega)
  have hpl4 := hpl3.put { s with clock := now }
  have hev4 := (hp3.ev p v).trans (Ev.set h3' p v (.cells 60 (rcells { s with clock := now } v) (some 0)))
  have hd4 : Bs (h3'.set p (.cells 60 (rcells { s with clock := now } v) (some 0))) d (decO bs).data := Sl.keep (hd.pres hp23) (by simp) fun c hc _ => get_ne _ fun e => by have := hfd c hc; omega
  have hq4 : (h3'.set p (.cells 60 (rcells { s with clock := now } v) (some 0))).get h2'.next = .cells 92 ((decO bs).cells d) (some 0) := by rw [AHeap.get_set, if_neg (by rw [hne2]; trivial)]; exact hq
  have hR : inR ackR s wire bs now = if ieq (decO bs).kind 2 then (ackR { s with clock := now } (decO bs).msg (decO bs).frag, []) else (ackA (inS { s with clock := now } (decO bs)).1 wire, (inS { s with clock := now } (decO bs)).2) := by
    unfold inR; rw [hE, hb4]; rfl
  rw [hR, e0]
  simp [hn3, h03, h33, hcl3, rst_clock]
  rw [kseq_normal]
  refine AW_gen (fun fr' h' => fr'.n = 142 ∧ fr'.get 0 = some (.ptr p 0) ∧ fr'.get 1 = some (i64 wire) ∧ fr'.get 11 = some (.ptr h2'.next 0) ∧ h'.get h2'.next = .cells 92 ((decO bs).cells d) (some 0) ∧ h2'.next < h'.next ∧ RL h' p { s with clock := now } v ∧ Ev h1' h' p v v ∧ Bs h' d (decO bs).data) ⟨by simp [hn3], by simp [h03], by simp [h13], by simp [h113], hq4, by simp; omega, hpl4, hev4, hd4⟩ ?_
  rintro fr4 h4' ⟨hn4, h04, h14, h114, hq5, hlt5, hpl5, hev5, hd5⟩
  obtain ⟨s1, hs1⟩ : ∃ s1 : S, s1 = { s with clock := now } := ⟨_, rfl⟩
  have ep : s1.part = s.part := by rw [hs1]
  have ea : s1.acks = s.acks := by rw [hs1]
  have eu : s1.units = s.units := by rw [hs1]
  rw [← hs1] at hpl5 ⊢
  rw [← ep] at hpl0
  rw [← ea] at hal
  rw [← eu] at hul
  clear hs1 ep ea eu hR hq4 hd4 hev4 hpl4 hne hne2 hcl3 hpl3 e0 hp23 hp3 hnq hq h123 h113 h33 h13 h03 hn3 bad hul8 hcl hE
  have hdl := decO_len bs
  generalize hf : decO bs = f at *
  have hcl5 := hpl5.cells
  simp [hn4, h114, hq5, kseq_normal]
  refine Br.mk (fun hb5 => ?_) (fun hb5 => ?_)
  · simp [hn4, h04, h114, hq5, kseq_normal]
    refine (rackn_sp hpl5 hd5 hul).mono ?_
    rintro r h6 ⟨rfl, v', hpl6, hev6⟩
    have hp7 : Pres h6 (h6.new (.cells 34 [] (some 0))) := (Pres.refl h6).new _
    simp [hn4, kseq_normal, hb5, pbs63_0]
    exact ⟨⟨_, [], rfl, Bss.empty h6, fun c hc => by simp [blk] at hc; have := (hev5.trans hev6).next; omega, by simp⟩, v', hpl6.pres hp7, (hev5.trans hev6).trans (hp7.ev p v')⟩
  simp [hn4, h04, hb5, pbs63_0]
  rw [kseq_normal]
  have hp7 : Pres h4' (h4'.new (.cells 34 [] (some 0))) := (Pres.refl h4').new _
  have hbe : Bss (h4'.new (.cells 34 [] (some 0))) (.sl h4'.next 0 0 0 (.at_ 0)) [] [] := Bss.empty h4'
  have hge : Gf (h4'.new (.cells 34 [] (some 0))) 34 1 (.sl h4'.next 0 0 0 (.at_ 0)) [] := Gf.empty
  have hle := (hev5.trans (hp7.ev p v)).next
  have hpl6 := hpl5.pres hp7
  refine AW_gen (fun fr' h' => fr'.n = 142 ∧ fr'.get 0 = some (.ptr p 0) ∧ fr'.get 1 = some (i64 wire) ∧ fr'.get 11 = some (.ptr h2'.next 0) ∧ (∃ w, fr'.get 13 = some w ∧ Bss h' w [] [] ∧ Gf h' 34 1 w [] ∧ Fresh h1' w ∧ ∀ c, blk w = some c → blk v.ak ≠ some c) ∧ h'.get h2'.next = .cells 92 (f.cells d) (some 0) ∧ h2'.next < h'.next ∧ RL h' p s1 v ∧ Ev h1' h' p v v ∧ Bs h' d f.data)
    ⟨by simp [hn4], by simp [h04], by simp [h14], by simp [h114], ⟨_, by simp, hbe, hge, fun c hc => by simp [blk] at hc; have := hev5.next; omega, fun c hc e => by simp [blk] at hc; have := hpl5.ak.blk_lt e; omega⟩, (hp7.2 _ hlt5).trans hq5, by simp; omega, hpl6, hev5.trans (hp7.ev p v), hd5.pres hp7⟩ ?_
  clear hp7 hbe hge hpl6 hle hcl5 hpl5 hq5 hev5 hd5 hlt5 hn4 h04 h14 h114
  rintro fr4 h4' ⟨hn4, h04, h14, h114, ⟨w, h134, hwb, hwg, hwf, hwa⟩, hq5, hlt5, hpl5, hev5, hd5⟩
  have hcl5 := hpl5.cells
  have hbq : p ≠ h2'.next := by have := hp2.1; omega
  have hlen6 : plen Try.prog 34 v.pt = some (i64 (s1.part.length : Int)) := Bs.len hpl5.pt
  have hlend : plen Try.prog 34 d = some (i64 (f.data.length : Int)) := hd5.len
  have hw2 : IntKind.i64.wrap ((s1.part.length : Int) + (f.data.length : Int)) = (s1.part.length : Int) + (f.data.length : Int) := wrap_in (by omega)
  rw [AW_seq]
  refine AW_cut (Q' := fun e fr' h' => e = .normal ∧ fr'.n = 142 ∧ fr'.get 0 = some (.ptr p 0) ∧ fr'.get 1 = some (i64 wire) ∧ ∃ x, fr'.get 13 = some x ∧ InQ h1' h' p v (fun h s v => RL h p s v) (inS s1 f) x) ?_ ?_
  · have no : inS s1 f = (s1, []) → InQ h1' h4' p v (fun h s v => RL h p s v) (inS s1 f) w := fun e => by
      rw [e]; exact ⟨[], v, hwb, hwf, by simp, hpl5, hev5, hwa, by simp⟩
    rw [AW_seq]
    refine AW_region_t _ _ _ _ _ (by kernel_rfl) ?_
    simp [hn4, h04, h114, hq5, hcl5, kseq_normal]
    refine Br.mk (fun hb6 => ?_) (fun hb6 => ?_)
    case refine_2 =>
      simp [hn4, h04, h14, hb6, h134, kseq_normal]
      exact no (by unfold inS; rw [hb6]; rfl)
    simp [hn4, h04, h114, hq5, hcl5, hb6, kseq_normal]
    refine Br.mk (fun hb7 => ?_) (fun hb7 => ?_)
    case refine_2 =>
      simp [hn4, h04, h14, hb6, hb7, h134, kseq_normal]
      exact no (by unfold inS; rw [hb6, hb7]; rfl)
    simp [hn4, h04, h114, hq5, hcl5, hb6, hb7, hlen6, hlend, hw2, kseq_normal]
    refine Br.mk (fun hb8 => ?_) (fun hb8 => ?_)
    · simp [hn4, h04, h14, hb6, hb7, hb8, h134, kseq_normal]
      exact no (by unfold inS; rw [hb6, hb7, hb8]; rfl)
    simp [hn4, hb6, hb7, hb8]
    rw [← AW_seq]
    simp only [AW_seq]
    have hb8' := ilt_false.1 hb8
    have hpn4 : p < h4'.next := hpl5.lt
    have hp40 : Pres h4' (h4'.new (.cells 5 [] (some 0))) := (Pres.refl h4').new _
    obtain ⟨x1, h5, hap5, hg5, hp5, hf5⟩ := appF (h0 := h4') (h := h4'.new (.cells 5 [] (some 0))) (x := .sl h4'.next 0 0 0 (.at_ 0)) (l := []) hp40 (fun c hc => by simp [blk] at hc; omega) Gf.empty (Sl.pres hpl5.pt hp40) (by simp; omega)
    obtain ⟨x2, h6, hap6, hg6, hp6, hf6⟩ := appF hp5 hf5 hg5 (hd5.pres hp5) (by simp; omega)
    rw [List.nil_append] at hg6 hg5
    have hc4 := (hp40.2 p hpn4).trans hcl5
    have hc5 := (hp5.2 p hpn4).trans hcl5
    have hc6 := (hp6.2 p hpn4).trans hcl5
    have hq50 := (hp40.2 _ hlt5).trans hq5
    have hq55 := (hp5.2 _ hlt5).trans hq5
    have hq6 := (hp6.2 _ hlt5).trans hq5
    obtain ⟨hx1, hx2, hx3⟩ := Sl.one hg6.sl
    refine AW_region_d [.plain, .plain, .plain, .plain, .plain, .load [0], .eff [], .plain, .load [0, 7], .eff [], .plain, .plain, .eff []] (by kernel_rfl) (by kernel_rfl) ?_
    have hne4 : (h4'.next = p) = False := eq_false (by omega)
    have hne5 : (h4'.next = h2'.next) = False := eq_false (by omega)
    simp [hn4, h04, h114, hq5, hcl5, hap5, hap6, hc5, hc6, hq55, hne4, hne5, rst_pt _ _ hx1 hx3]
    rw [kseq_normal]
    have hxp : ∀ c, blk x2 = some c → p ≠ c := fun c hc e => by have := hf6 c hc; omega
    obtain ⟨hpl7, hev7⟩ := hpl5.of_pt (x := x2) (s' := { s1 with part := s1.part ++ f.data }) (h' := h6.set p (.cells 60 (rcells s1 { v with pt := x2 }) (some 0))) (by simp; exact hp6.1)
      (fun c hlt hne => by rw [AHeap.get_set, if_neg (Ne.symm hne)]; exact hp6.2 c hlt) (by simp) (Sl.keep hg6.sl (by simp) fun c hc hlt => get_ne _ (hxp c hc)) (fun c hc => .inr (hf6 c hc))
    have hpt : ∀ c, blk x2 = some c → blk v.pt = some c ∨ h1'.next ≤ c := fun c hc => .inr (by have := hf6 c hc; have := hev5.next; omega)
    have hpa : ∀ c, blk x2 = some c → blk v.ak ≠ some c := fun c hc e => by have := hf6 c hc; have := hpl5.ak.blk_lt e; omega
    have hg7 : Gf (h6.set p (.cells 60 (rcells s1 { v with pt := x2 }) (some 0))) 5 1 x2 (byt (s1.part ++ f.data)) := hg6.keep (by simp) fun c hc _ => get_ne _ (hxp c hc)
    refine AW_gen (fun fr' h' => fr'.n = 142 ∧ fr'.get 0 = some (.ptr p 0) ∧ fr'.get 1 = some (i64 wire) ∧ fr'.get 11 = some (.ptr h2'.next 0) ∧ fr'.get 13 = some w ∧ h'.get h2'.next = .cells 92 (f.cells d) (some 0) ∧ RL h' p { s1 with part := s1.part ++ f.data } { v with pt := x2 } ∧ Ev h1' h' p v { v with pt := x2 } ∧ h2'.next < h'.next ∧ Bss h' w [] [] ∧ Gf h' 34 1 w [])
      ⟨by simp [hn4], by simp [h04], by simp [h14], by simp [h114], by simp [h134], by rw [AHeap.get_set, if_neg hbq]; exact hq6, hpl7, hev5.trans hev7, by simp; have := hp6.1; omega, ?_, ?_⟩ ?_
    · have hw6 := hwg.pres hp6
      exact ⟨(hw6.keep (h' := h6.set p (.cells 60 (rcells s1 { v with pt := x2 }) (some 0))) (by simp) fun c hc _ => get_ne _ fun e => by have := hwf c hc; omega).sl, rfl, fun i d b hi => by simp at hi⟩
    · exact (hwg.pres hp6).keep (by simp) fun c hc _ => get_ne _ fun e => by have := hwf c hc; omega
    clear hpl7 hev7 hq6 hc6 hap6 hg6 hg7 hap5 hg5 hc5 hc4 hq50 hq55
    rintro fr7 h7 ⟨hn7, h07, h17, h117, h137, hq7, hpl7, hev7, hlt7, hwb7, hwg7⟩
    have hcl7 := hpl7.cells
    have hpl8 := hpl7.put { s1 with part := s1.part ++ f.data, frag := IntKind.i64.wrap (s1.frag + 1) }
    have hev8 := hev7.trans (Ev.set h7 p { v with pt := x2 } (.cells 60 (rcells { s1 with part := s1.part ++ f.data, frag := IntKind.i64.wrap (s1.frag + 1) } { v with pt := x2 }) (some 0)))
    have hwg8 : Gf (h7.set p (.cells 60 (rcells { s1 with part := s1.part ++ f.data, frag := IntKind.i64.wrap (s1.frag + 1) } { v with pt := x2 }) (some 0))) 34 1 w [] := hwg7.keep (by simp) fun c hc _ => get_ne _ fun e => by have := hwf c hc; omega
    simp [hn7, h07, hcl7, rst_frag]
    rw [kseq_normal]
    have hq8 : (h7.set p (.cells 60 (rcells { s1 with part := s1.part ++ f.data, frag := IntKind.i64.wrap (s1.frag + 1) } { v with pt := x2 }) (some 0))).get h2'.next = .cells 92 (f.cells d) (some 0) := by rw [AHeap.get_set, if_neg hbq]; exact hq7
    obtain ⟨s2, hs2⟩ : ∃ s2 : S, s2 = { s1 with part := s1.part ++ f.data, frag := IntKind.i64.wrap (s1.frag + 1) } := ⟨_, rfl⟩
    obtain ⟨v2, hv2⟩ : ∃ v2 : V, v2 = { v with pt := x2 } := ⟨_, rfl⟩
    have e2 : inS s1 f = if f.last then ({ s2 with part := [], msg := IntKind.i64.wrap (s2.msg + 1), frag := 0 }, [s2.part]) else (s2, []) := by
      unfold inS; rw [hb6, hb7, hb8, hs2]; rfl
    have hv2p : ∀ c, blk v2.pt = some c → blk v.pt = some c ∨ h1'.next ≤ c := by rw [hv2]; exact hpt
    have hv2a : ∀ c, blk v2.pt = some c → blk v2.ak ≠ some c := by rw [hv2]; exact hpa
    have hv2q : ∀ c, blk v2.pt = some c → p ≠ c := by rw [hv2]; exact hxp
    have hwa2 : ∀ c, blk w = some c → blk v2.ak ≠ some c := by rw [hv2]; exact hwa
    have hwlt : ∀ c, blk w = some c → ¬ v2.W p c ∧ ¬ v2.R c ∧ blk v2.pt ≠ some c := by
      rw [hv2]
      intro c hc
      have h1w := hwf c hc
      refine ⟨fun hw => ?_, fun hr => ?_, fun e => ?_⟩
      · have := V.W_lt hp.lt hp.up hp.un hp.ak c hw; omega
      · have := hp.us.lt c hr; omega
      · have := hwg.blk_lt hc; have := hf6 c e; omega
    rw [← hs2, ← hv2] at hpl8 hev8 hq8 hwg8
    rw [e2, ← hs2, ← hv2]
    clear hcl7 hpl7 hq7 e2 no
    refine AW_gen (fun fr' h' => fr'.n = 142 ∧ fr'.get 0 = some (.ptr p 0) ∧ fr'.get 1 = some (i64 wire) ∧ fr'.get 11 = some (.ptr h2'.next 0) ∧ fr'.get 13 = some w ∧ h'.get h2'.next = .cells 92 (f.cells d) (some 0) ∧ RL h' p s2 v2 ∧ Ev h1' h' p v v2 ∧ h2'.next < h'.next ∧ Gf h' 34 1 w [])
      ⟨by simp [hn7], by simp [h07], by simp [h17], by simp [h117], by simp [h137], hq8, hpl8, hev8, by simp; exact hlt7, hwg8⟩ ?_
    clear hpl8 hev8 hq8 hev7 hs2 hv2 hwb7 hwg7 hwg8
    rintro fr8 h8 ⟨hn8, h08, h18, h118, h138, hq8, hpl8, hev8, hlt8, hwg8⟩
    simp [hn8, h118, hq8, kseq_normal]
    refine Br.mk (fun hb9 => ?_) (fun hb9 => ?_)
    case refine_2 =>
      rw [if_neg (by simp [hb9])]
      simp [hn8, h08, h18, h138, kseq_normal]
      exact ⟨[], v2, ⟨hwg8.sl, rfl, fun i d b hi => by simp at hi⟩, hwf, by simp, hpl8, hev8, hwa2, by simp⟩
    rw [if_pos hb9]
    obtain ⟨hy1, hy2, hy3⟩ := Sl.one hpl8.pt
    obtain ⟨y, h9, hapy, hgy, hgry⟩ := app1 (h := h8) (t := 63) (v := v2.pt) hwg8.gw sl63 sz34 by34 z34 rfl (by omega) (by rw [hy1]; rfl) (by omega) (by simp)
    rw [hy1] at hapy hgy
    have hcl8 := hpl8.cells
    have hpl9 : RL h9 p s2 v2 := hpl8.keep hgry.next fun c hc hcc => hgry.keep c hc fun e => by
      obtain ⟨k1, k2, k3⟩ := hwlt c e
      rcases hcc with hcc | hcc | hcc
      · exact k1 hcc
      · exact k2 hcc
      · exact k3 hcc
    have hev9 : Ev h1' h9 p v v2 := ⟨Nat.le_trans hev8.next hgry.next, fun c hc hw hpt => (hgry.keep c (Nat.lt_of_lt_of_le hc hev8.next) fun e => by have := hwf c e; omega).trans (hev8.keep c hc hw hpt), hev8.w, hev8.r, hev8.pt⟩
    have hcl9 := hpl9.cells
    simp [hn8, h08, h138, hcl8, pbs_one sl63 sz34 z34 rfl (by omega) (by rw [hy1]; rfl) hy3, hy1, hapy]
    rw [kseq_normal]
    refine AW_gen (fun fr' h' => fr'.n = 142 ∧ fr'.get 0 = some (.ptr p 0) ∧ fr'.get 1 = some (i64 wire) ∧ fr'.get 13 = some y ∧ h' = h9)
      ⟨by simp [hn8], by simp [h08], by simp [h18], by simp, rfl⟩ ?_
    rintro fr9 h9' ⟨hn9, h09, h19, h139, rfl⟩
    have hplA := (hpl9.put { s2 with msg := IntKind.i64.wrap (s2.msg + 1) }).put { s2 with msg := IntKind.i64.wrap (s2.msg + 1), frag := 0 }
    have hevA := hev9.trans ((Ev.set h9' p v2 (.cells 60 (rcells { s2 with msg := IntKind.i64.wrap (s2.msg + 1) } v2) (some 0))).trans (Ev.set _ p v2 (.cells 60 (rcells { s2 with msg := IntKind.i64.wrap (s2.msg + 1), frag := 0 } v2) (some 0))))
    obtain ⟨hplB, hevB⟩ := hplA.of_pt (x := .nilsl) (s' := { s2 with part := [], msg := IntKind.i64.wrap (s2.msg + 1), frag := 0 }) (h' := ((h9'.set p (.cells 60 (rcells { s2 with msg := IntKind.i64.wrap (s2.msg + 1) } v2) (some 0))).set p (.cells 60 (rcells { s2 with msg := IntKind.i64.wrap (s2.msg + 1), frag := 0 } v2) (some 0))).set p (.cells 60 (rcells { s2 with msg := IntKind.i64.wrap (s2.msg + 1), frag := 0 } { v2 with pt := .nilsl }) (some 0))) (by simp) (fun c _ hne => by rw [AHeap.get_set, if_neg (Ne.symm hne)]) (by simp) (Sl.nil _ 1) (fun c hc => by simp [blk] at hc)
    simp [hn9, h09, hcl9, kseq_normal, rst_msg, rst_frag, rst_pt { s2 with msg := IntKind.i64.wrap (s2.msg + 1), frag := 0 } v2 (x := .nilsl) rfl rfl, h19, h139]
    have hyp : ∀ c, blk y = some c → p ≠ c := fun c hc e => by
      rcases hgry.new c hc with e1 | e1
      · have := hwf c e1; omega
      · have := hpl8.lt; omega
    refine ⟨[v2.pt], _, ⟨Sl.keep hgy.sl (by simp) fun c hc _ => ?_, rfl, fun i d b hi hb => ?_⟩, fun c hc => ?_, fun d hd c hc => ?_, hplB, hevA.trans hevB, fun c hc e => ?_, fun d hd c hc => ?_⟩
    · rw [get_ne _ (hyp c hc), get_ne _ (hyp c hc), get_ne _ (hyp c hc)]
    · cases i with
      | succ i => simp at hi
      | zero =>
        simp at hi hb; subst hi; subst hb
        exact Sl.keep hpl9.pt (by simp) fun c hc _ => by rw [get_ne _ (hv2q c hc), get_ne _ (hv2q c hc), get_ne _ (hv2q c hc)]
    · rcases hgry.new c hc with e1 | e1
      · exact hwf c e1
      · have := hev8.next; omega
    · simp at hd; subst hd; exact hv2p c hc
    · rcases hgry.new c hc with e1 | e1
      · exact hwa2 c e1 e
      · have := hpl8.ak.blk_lt e; omega
    · simp at hd; subst hd
      exact ⟨hv2q c hc, hv2a c hc⟩
  rintro e fr9 h9 ⟨rfl, hn9, h09, h19, x, h139, ds, v', hb9, hfx, hds, hpl9, hev9, hxa, hda⟩
  have hal2 : (inS s1 f).1.acks.length ≤ 100000 := by
    unfold inS; repeat' split
    all_goals exact hal
  generalize inS s1 f = R at *
  obtain ⟨s2, l⟩ := R
  simp only at hb9 hpl9 hal2 ⊢
  rw [kseq_normal]
  simp only [AW_seq]
  have hcl9 := hpl9.cells
  obtain ⟨x', h10, hapx, hg10, hgr10⟩ := app1 (h := h9) (t := 58) (v := .agg (arow (wire, s2.msg, s2.frag))) hpl9.ak sl58 sz103 by103 z103 (by rfl) (by omega) (by rfl) (by omega) (by simp; omega)
  obtain ⟨hy1, hy2, hy3⟩ := Sl.one hg10.sl
  have hap : blk v'.ak ≠ some p := hpl9.away.ak
  have hc10 := (hgr10.keep p hpl9.lt hap).trans hcl9
  refine AW_region_d [.plain, .plain, .plain, .plain, .load [0], .plain, .plain, .plain, .plain, .load [0], .plain, .plain, .plain, .load [0], .plain, .plain, .plain, .eff [], .plain, .plain, .eff []] (by kernel_rfl) (by kernel_rfl) ?_
  rw [arow_cells] at hapx hg10
  simp [hn9, h09, h19, hcl9, pb92_ack, pb103_ack, pbs_one sl58 sz103 z103 rfl (by omega) (by rfl) (show allOne (.agg (arow (wire, s2.msg, s2.frag))) = true from rfl), arow_cells, hapx, hc10, rst_ak _ _ hy1 hy3, h139, kseq_normal]
  have hp10 : ∀ c, blk x' = some c → p ≠ c := fun c hc e => by
    rcases hgr10.new c hc with e1 | e1
    · exact hap (e ▸ e1)
    · have := hpl9.lt; omega
  obtain ⟨hplA, hevA⟩ := hpl9.of_ak (x := x') (s' := ackA s2 wire) (h' := h10.set p (.cells 60 (rcells s2 { v' with ak := x' }) (some 0))) (by simp; exact hgr10.next)
    (fun c hlt hne hb => by rw [AHeap.get_set, if_neg (Ne.symm hne)]; exact hgr10.keep c hlt hb) (by rw [AHeap.get_set, if_pos rfl]; rfl)
    (by have := hg10.keep (h' := h10.set p (.cells 60 (rcells s2 { v' with ak := x' }) (some 0))) (by simp) fun c hc _ => get_ne _ (hp10 c hc)
        simpa [ackA] using this) hgr10.new
  have kp : ∀ c, c < h9.next → p ≠ c → blk v'.ak ≠ some c → (h10.set p (.cells 60 (rcells s2 { v' with ak := x' }) (some 0))).get c = h9.get c := fun c hc hp ha => by rw [get_ne _ hp]; exact hgr10.keep c hc ha
  refine ⟨⟨x, ds, rfl, ⟨Sl.keep hb9.sl (by simp; exact hgr10.next) fun c hc hlt => kp c hlt (fun e => by have := hfx c hc; omega) (hxa c hc), hb9.len, fun i d b hi hb => Sl.keep (hb9.el i d b hi hb) (by simp; exact hgr10.next) fun c hc hlt => ?_⟩, hfx, hds⟩, _, hplA, hev9.trans hevA⟩
  have := hda d (List.mem_of_getElem? hi) c hc
  exact kp c hlt this.1 this.2
end Go.Eng.L35
