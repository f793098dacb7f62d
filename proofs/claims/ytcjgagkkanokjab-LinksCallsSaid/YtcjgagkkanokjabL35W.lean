/- Law 35: Output of the reference. -/
import Derived.Test.YtcjgagkkanokjabL35U
namespace Go.Eng.L35
open Go.Proofs Go.Eng
/-- The time of a unit is written. -/
theorem RL.mark {h : AHeap} {p : Nat} {s : S} {v : V} (hp : RL h p s v) {k : Nat} (hk : k < s.units.length) (now : Int) :
    ∃ b o ob v', blk v.un = some b ∧ pindexAddr Try.prog 57 v.un (i64 (k : Int)) = some (.ptr b o) ∧ stc Try.prog 2 (h.get b) (o + 5) (i64 now) = some ob ∧
      RL (h.set b ob) p { s with units := s.units.set k { s.units[k] with at_ := now } } v' ∧ Ev h (h.set b ob) p v v' ∧ v'.un = v.un ∧ v'.pt = v.pt ∧ (∀ c, v'.W p c → v.W p c) ∧ (∀ c, v'.R c → v.R c) := by
  have hl := hp.us.length
  obtain ⟨b, o, ob, hb, hix, hbl, hst, hgw⟩ := hp.un.put (P := Try.prog) (v := i64 now) sl57 sz94 k (by omega) sz2 (f := 5) (by omega) rfl rfl
  obtain ⟨r0, hr0, d0, rfl, hd0⟩ := hp.us.get k s.units[k] (List.getElem?_eq_getElem hk)
  rw [List.getElem?_eq_getElem (by omega)] at hr0
  have hrow := Option.some.inj hr0
  have hpb : p ≠ b := fun e => hp.away.un (by rw [hb, e])
  have hkeep : ∀ c, c ≠ b → (h.set b ob).get c = h.get c := fun c hc => get_ne _ (Ne.symm hc)
  have hU : URs (h.set b ob) s.units v.rows := hp.us.keep (by simp) fun c hc _ => hkeep c fun e => hp.sep c (.inl hc) (.inr (.inr (.inl (by rw [hb, e]))))
  have hd0' : Bs (h.set b ob) d0 s.units[k].data := Sl.keep hd0 (by simp) fun c hc _ => hkeep c fun e => hp.sep c (.inl ⟨v.rows[k], List.getElem_mem _, by rw [hrow]; exact hc⟩) (.inr (.inr (.inl (by rw [hb, e]))))
  have hrb : rowB (v.rows[k].set 5 (i64 now)) = rowB v.rows[k] := by rw [hrow]; rfl
  obtain ⟨r1, r2⟩ := hp.of_un (x := v.un) (rows' := v.rows.set k (v.rows[k].set 5 (i64 now))) (s' := { s with units := s.units.set k { s.units[k] with at_ := now } }) (h' := h.set b ob) (by simp) (fun c _ _ hc => hkeep c fun e => hc (by rw [hb, e])) (by rw [get_ne _ (Ne.symm hpb)]; exact hp.cells) hgw
    (URs.set (u := { s.units[k] with at_ := now }) (row := v.rows[k].set 5 (i64 now)) ⟨d0, by rw [hrow]; rfl, hd0'⟩ k hU) (fun c hc => .inl hc) (fun row hm c hc => .inl (mem_set_rows (by omega) hrb row hm c hc))
  exact ⟨b, o, ob, _, hb, hix, hst, r1, r2, rfl, rfl, fun c hc => hc, fun c ⟨row, hm, hc⟩ => mem_set_rows (by omega) hrb row hm c hc⟩
theorem pb105_out (w : Int) {y : AV} (hy : y.cells = [y]) : pbuild Try.prog 105 [(0, i64 w), (1, y)] = some (.agg [i64 w, y]) := by
  rw [pb105]; simp [bstep, splice, hy]
theorem wiresQ_0 (t : Int) (ups : List Nat) (hu : 0 < ups.length) : wiresQ 0 t ups = [ups[0]] := by
  cases ups with
  | nil => simp at hu
  | cons a l => rfl
theorem wiresQ_1 (t : Int) (ups : List Nat) (hu : t.toNat % ups.length < ups.length) : wiresQ 1 t ups = [ups[t.toNat % ups.length]] := by
  show (ups.drop (t.toNat % ups.length)).take 1 = _
  rw [List.drop_eq_getElem_cons hu]; rfl
theorem wiresQ_2 (t : Int) (ups : List Nat) : wiresQ 2 t ups = ups := rfl
theorem pbs68_0 : pbs Try.prog 68 0 [] = some (105, [], .sl 0 0) := by kernel_rfl
variable [O35]
theorem rout_sp {h : AHeap} {p : Nat} {s : S} {v : V} (hp : RL h p s v) (now : Int) (hul : s.units.length ≤ 100000) (hal : s.acks.length ≤ 100000) (hupl : s.up.length ≤ 8)
    (hud : ∀ u ∈ s.units, u.data.length ≤ 1000000) (haw : ∀ a ∈ s.acks, 0 ≤ a.1 ∧ a.1 < (s.up.length : Int)) (htn : 0 ≤ s.turn ∧ s.turn ≤ 900000) (hqa : s.quality = 0 ∨ s.quality = 1 ∨ s.quality = 2) :
    Ca Try.prog 23 [.ptr p 0, i64 now] h fun r h' => outA 105 h h' (outR s now).2.1 (outR s now).2.2 r ∧ ∃ v', RL h' p (outR s now).1 v' ∧ Ev h h' p v v' := by
  refine ci Try.func23 rfl (by decide) ?_
  intro fr hn hg
  replace hn : fr.n = 247 := hn
  have h0 : fr.get 0 = some (.ptr p 0) := hg 0 (by simp)
  have h1 : fr.get 1 = some (i64 now) := hg 1 (by simp)
  clear hg
  show AW _ _ _ _ _
  have hcl := hp.cells
  simp [hn, h0, h1, kseq_normal]
  refine (rtime_sp hp now).mono ?_
  rintro r h1' ⟨rfl, rfl⟩
  simp [hn, kseq_normal]
  refine Br.mk (fun hb1 => ?_) (fun hb1 => ?_)
  case refine_2 =>
    simp [hn, kseq_normal]
    have : outR s now = (s, [], timeE s now) := by unfold outR; rw [hb1]; rfl
    rw [this]; exact ⟨outA.nil _ _ _ _, v, hp, Ev.refl _ p v⟩
  simp [hn, h0, kseq_normal]
  refine (rusb_sp hp hupl).mono ?_
  rintro ux h2 ⟨hgu, hp2, hfu⟩
  simp [hn]
  rw [kseq_normal]
  refine AW_gen (fun fr' h' => fr'.n = 247 ∧ fr'.get 0 = some (.ptr p 0) ∧ fr'.get 1 = some (i64 now) ∧ fr'.get 7 = some ux ∧ h' = h2) ⟨by simp [hn], by simp [h0], by simp [h1], by simp, rfl⟩ ?_
  rintro fr3 h3 ⟨hn3, h03, h13, h73, rfl⟩
  have hpl3 := hp.pres hp2
  have hcl3 := hpl3.cells
  have hun3 := hpl3.un.sl
  have hul3 := hpl3.us.length
  obtain ⟨rs, hrs⟩ : ∃ rs, rs = resR s now := ⟨_, rfl⟩
  have huxl : plen Try.prog 79 ux = some (i64 ((usb s.up).length : Int)) := by have := hgu.sl.len sl79; simpa [ints] using this
  have hunl : plen Try.prog 57 v.un = some (i64 (s.units.length : Int)) := by have := hun3.len sl57; rw [hul3]; exact this
  -- time to send again?
  rw [AW_seq]
  refine AW_cut (Q' := fun e fr' h' => e = .normal ∧ fr'.n = 247 ∧ fr'.get 0 = some (.ptr p 0) ∧ fr'.get 1 = some (i64 now) ∧ fr'.get 7 = some ux ∧ fr'.get 8 = some (.bool rs) ∧ h' = h3) ?_ ?_
  · refine AW_region_t _ _ _ _ _ (by kernel_rfl) ?_
    simp [hn3, h03, hcl3, hunl, h13]
    refine Br.mk (fun hb2 => ?_) (fun hb2 => ?_)
    · have hu0 : 0 < s.units.length := by rw [ilt_true] at hb2; omega
      obtain ⟨u0, us0, hu0'⟩ : ∃ u0 us0, s.units = u0 :: us0 := by
        cases hh : s.units with
        | nil => rw [hh] at hu0; simp at hu0
        | cons u us => exact ⟨u, us, rfl⟩
      obtain ⟨b, o, ty, cs, wr, _, hix, _, hgb, hle, hrow⟩ := hun3.raw sl57 sz94 0 (by omega)
      obtain ⟨r0, hr0, d0, rfl, _⟩ := hpl3.us.get 0 u0 (by rw [hu0']; rfl)
      rw [List.getElem?_eq_getElem (by omega)] at hr0
      rw [Option.some.inj hr0] at hrow
      have hat : atCells Try.prog 2 (h3.get b) (o + 5) = some (i64 u0.at_) := by rw [hgb, one_load ag2 hle hrow (by omega)]; rfl
      have hix : pindexAddr Try.prog 57 v.un (i64 0) = some (.ptr b o) := hix
      have er : rs = (!(ilt u0.at_ 0) && !(ilt (IntKind.i64.wrap (now - u0.at_)) s.timeout)) := by rw [hrs]; unfold resR; rw [hu0']
      simp [hn3, h03, hcl3, hunl, h13, hb2, hix, hat, h73]
      refine Br.mk (fun hb3 => ?_) (fun hb3 => ?_)
      · simp [hn3, h03, hcl3, h13, hb2, hb3, hix, hat, h73, er]
      · simp [hn3, h03, hcl3, h13, hb2, hb3, hix, hat, h73, er]
    · have hu0 : s.units = [] := by
        rw [ilt_false] at hb2; exact List.length_eq_zero_iff.1 (by omega)
      have er : rs = false := by rw [hrs]; unfold resR; rw [hu0]
      simp [hn3, h03, hcl3, h13, hb2, h73, er]
  rintro e fr4 h4 ⟨rfl, hn4, h04, h14, h74, h84, rfl⟩
  clear hn3 h03 h13 h73
  rw [kseq_normal]
  have hrs0 : resR s now = rs := hrs.symm
  rw [AW_seq]
  refine AW_cut (Q' := fun e fr' h' => (e = .normal ∧ fr'.n = 247 ∧ fr'.get 0 = some (.ptr p 0) ∧ fr'.get 1 = some (i64 now) ∧ fr'.get 7 = some ux ∧ fr'.get 8 = some (.bool rs) ∧ h' = h4 ∧ (rs && ilt 0 ((usb s.up).length : Int) && ieq s.repeats 6) = false) ∨
    (e = .ret ∧ (rs && ilt 0 ((usb s.up).length : Int) && ieq s.repeats 6) = true ∧ fr'.get 4 = some .nilsl ∧ fr'.get 5 = some (i64 4) ∧ h' = h4.set p (.cells 60 (rcells { s with broke := true } v) (some 0)))) ?_ ?_
  · simp [hn4, h04, h74, h84, huxl, hcl3, rst_broke, kseq_normal]
    cases rs with
    | false => simp [hn4, h04, h74, h84, huxl, hcl3, h14, kseq_normal]
    | true =>
      simp [hn4, h04, h74, h84, huxl, hcl3, kseq_normal]
      refine Br.mk (fun hb3 => ?_) (fun hb3 => ?_)
      · simp [hn4, h04, h74, h84, huxl, hcl3, hb3, kseq_normal]
        refine Br.mk (fun hb4 => ?_) (fun hb4 => ?_)
        · simp [hn4, h04, h74, h84, huxl, hcl3, hb3, hb4, rst_broke, kseq_normal]
        · simp [hn4, h04, h74, h84, huxl, hcl3, h14, hb3, hb4, kseq_normal]
      · simp [hn4, h04, h74, h84, huxl, hcl3, h14, hb3, kseq_normal]
  rintro e fr5 h5 (⟨rfl, hn5, h05, h15, h75, h85, rfl, hC⟩ | ⟨rfl, hC, k4, k5, rfl⟩)
  case inr =>
    have : outR s now = ({ s with broke := true }, [], 4) := by unfold outR; rw [hb1, hrs0, hC]; rfl
    simp [k4, k5, this]
    exact ⟨outA.nil _ _ _ 4, v, hpl3.put _, (hp2.ev p v).trans (Ev.set _ _ _ _)⟩
  clear hn4 h04 h14 h74 h84
  rw [kseq_normal]
  have hclk := hpl3.put { s with clock := now }
  have hevN2 := (hp2.ev p v).trans (Ev.set h5 p v (.cells 60 (rcells { s with clock := now } v) (some 0)))
  have hpn : p < h1'.next := hp.lt
  have hgo : ∀ c, p ≠ c → (h5.set p (.cells 60 (rcells { s with clock := now } v) (some 0))).get c = h5.get c := fun c hc => get_ne _ hc
  have hugo : Gf (h5.set p (.cells 60 (rcells { s with clock := now } v) (some 0))) 3 1 ux (ints (usb s.up)) := hgu.keep (by simp) fun c hc hl => hgo c fun e => by have := hfu c hc; omega
  simp [hn5, h05, h15, hcl3, rst_clock]
  rw [kseq_normal]
  simp [hn5, pbs68_0]
  rw [kseq_normal]
  obtain ⟨s2, hs2⟩ : ∃ s2 : S, s2 = { s with clock := now } := ⟨_, rfl⟩
  rw [← hs2] at hclk hevN2 hugo
  rw [← hs2]
  have hux0 : ∀ c, blk ux = some c → h1'.next ≤ c := hfu
  have hupsl : (usb s.up).length ≤ 8 := Nat.le_trans (by have := usbT_len s.up s.up.length; exact this) hupl
  have hlow : ∀ c, v.W p c ∨ v.R c ∨ blk v.pt = some c → c < h1'.next := by
    rintro c (hc | hc | hc)
    · exact V.W_lt hp.lt hp.up hp.un hp.ak c hc
    · exact hp.us.lt c hc
    · exact Sl.blk_lt hp.pt hc
  refine AW_gen (fun fr' h' => fr'.n = 247 ∧ fr'.get 0 = some (.ptr p 0) ∧ fr'.get 1 = some (i64 now) ∧ fr'.get 7 = some ux ∧ fr'.get 8 = some (.bool rs) ∧ ∃ w, fr'.get 9 = some w ∧ OI (fun h s v => RL h p s v) 105 h1' p v h' s2 v w [] ∧ Bes 1 h' w ux (ints (usb s.up)))
    ⟨by simp [hn5], by simp [h05], by simp [h15], by simp [h75], by simp [h85], .sl h5.next 0 0 0 (.at_ 0), by simp, ?_, ?_⟩ ?_
  · have hp6 := (Pres.refl (h5.set p (.cells 60 (rcells s2 v) (some 0)))).new (.cells 105 [] (some 0))
    have hle : h1'.next ≤ h5.next := hp2.1
    refine ⟨hclk.pres hp6, hevN2.trans (hp6.ev p v), hlow, [], ⟨?_, by simp, fun c hc => ?_⟩, rfl⟩
    · have := (Gf.empty (h := h5.set p (.cells 60 (rcells s2 v) (some 0))) (e := 105) (n := 2)).gw
      simpa using this
    · simp [blk] at hc; omega
  · refine ⟨(hugo.pres ((Pres.refl _).new _)).sl, fun c hc e => ?_⟩
    have := hgu.blk_lt hc
    simp [blk] at e; omega
  clear hclk hevN2 hgo hugo hn5 h05 h15 h75 h85
  rintro fr6 h6 ⟨hn6, h06, h16, h76, h86, w0, h96, hoi6, hbe6⟩
  have e1 : s2.up = s.up := by rw [hs2]
  have e2 : s2.units = s.units := by rw [hs2]
  have e3 : s2.turn = s.turn := by rw [hs2]
  have e4 : s2.acks = s.acks := by rw [hs2]
  have e5 : s2.quality = s.quality := by rw [hs2]
  obtain ⟨A, hA⟩ : ∃ A, A = if (usb s.up).length = 0 then [] else s.acks := ⟨_, rfl⟩
  have hAl : A.length ≤ 100000 := by rw [hA]; split; simp; exact hal
  have hAc : ∀ k : Nat, (ilt (k : Int) (s.acks.length : Int) && ilt 0 ((usb s.up).length : Int)) = ilt (k : Int) (A.length : Int) := fun k => by
    rw [hA]
    by_cases h0 : (usb s.up).length = 0
    · rw [if_pos h0, h0, (ilt_false (a := 0) (b := ((0 : Nat) : Int))).2 (by omega), Bool.and_false]; exact (ilt_false.2 (by simp)).symm
    · rw [if_neg h0, (ilt_true (a := 0) (b := ((usb s.up).length : Int))).2 (by omega), Bool.and_true]
  have hAw : ∀ a ∈ A, 0 ≤ a.1 ∧ a.1 < (s.up.length : Int) := fun a ha => by
    rw [hA] at ha; split at ha
    · simp at ha
    · exact haw a ha
  have hAg : ∀ k, k < A.length → s.acks[k]? = A[k]? ∧ (usb s.up).length ≠ 0 := fun k hk => by
    rw [hA] at hk ⊢
    split
    · rename_i h; rw [if_pos h] at hk; simp at hk
    · rename_i h; exact ⟨rfl, h⟩
  have hpn0 : p < h1'.next := hpn
  simp [hn6, kseq_normal]
  refine AW_cut_x 0 (fun fr' h' => ∃ x, fr'.get 9 = some x ∧ OI (fun h s v => RL h p s v) 105 h1' p v h' s2 v x (A.map (ackO s.up (usb s.up))) ∧ Bes 1 h' x ux (ints (usb s.up))) ?_ ?_
  · refine AW_loop_fr (fun m fr' h' => ∃ k x, m = A.length - k ∧ k ≤ A.length ∧ fr'.get 10 = some (i64 (k : Nat)) ∧ fr'.get 9 = some x ∧ OI (fun h s v => RL h p s v) 105 h1' p v h' s2 v x ((A.take k).map (ackO s.up (usb s.up))) ∧ Bes 1 h' x ux (ints (usb s.up))) A.length
      ⟨0, w0, by simp, by omega, by simp, by simp [h96], by simpa using hoi6, hbe6⟩ ?_
    rintro J hJ m fr' h' ⟨k, x, rfl, hk, h10, h9, hoi, hbe⟩ hfr
    have hn' : fr'.n = 247 := hfr.1.trans (by simp [hn6])
    have h0' : fr'.get 0 = some (.ptr p 0) := (hfr.2 0 (by kernel_rfl)).trans (by simp [h06])
    have h7' : fr'.get 7 = some ux := (hfr.2 7 (by kernel_rfl)).trans (by simp [h76])
    clear hfr
    have hcl := hoi.pl.cells
    have hak := hoi.pl.ak.sl
    rw [e4] at hak
    have hakl : plen Try.prog 58 v.ak = some (i64 (s.acks.length : Int)) := by have := hak.len sl58; simpa using this
    have hAck := hAc k
    by_cases hkA : k < A.length
    case neg =>
      have : k = A.length := by omega
      subst this
      rw [List.take_length] at hoi
      rw [ilt_false.2 (Int.le_refl _), Bool.and_eq_false_iff] at hAck
      rcases hAck with hq | hq
      · simp [hn', h0', h7', h9, h10, hcl, hakl, huxl, hq, kseq_normal]
        exact ⟨hoi, hbe⟩
      · cases hq2 : ilt (A.length : Int) (s.acks.length : Int)
        · simp [hn', h0', h7', h9, h10, hcl, hakl, huxl, hq, hq2, kseq_normal]
          exact ⟨hoi, hbe⟩
        · simp [hn', h0', h7', h9, h10, hcl, hakl, huxl, hq, hq2, kseq_normal]
          exact ⟨hoi, hbe⟩
    have hkA2 : ilt (k : Int) (A.length : Int) = true := by rw [ilt_true]; omega
    rw [hkA2, Bool.and_eq_true] at hAck
    obtain ⟨hq1, hq2⟩ := hAck
    obtain ⟨hag1, hu0⟩ := hAg k hkA
    have hk2 : k < s.acks.length := by rw [ilt_true] at hq1; omega
    obtain ⟨b, o, ty, cs, wr, hab, hix, hbl, hgb, hle, hrow⟩ := hak.raw sl58 sz103 k (by simpa using hk2)
    rw [List.getElem_map] at hrow
    have ham := hAw A[k] (List.getElem_mem _)
    have htk : A.take (k + 1) = A.take k ++ [A[k]] := by rw [List.take_add_one, List.getElem?_eq_getElem hkA]; rfl
    have hsk : s.acks[k] = A[k] := by rw [List.getElem?_eq_getElem hk2, List.getElem?_eq_getElem hkA] at hag1; exact Option.some.inj hag1
    rw [hsk] at hrow
    generalize A[k] = a at *
    obtain ⟨w, m, f⟩ := a
    obtain ⟨ham1, ham2⟩ := ham
    simp only at ham1 ham2
    obtain ⟨w, rfl⟩ := Int.eq_ofNat_of_zero_le ham1
    have hlf : atCells Try.prog 92 (h'.get b) (o + 1) = some (.agg (Fm.cells ⟨2, false, m, f, []⟩ .nilsl)) := by rw [hgb, sub_load ag92 sz92 hle hrow (by omega)]; rfl
    have hlw : atCells Try.prog 3 (h'.get b) o = some (i64 (w : Int)) := by have := one_load (f := 0) ag3 hle hrow (by omega) (ty := ty) (wr := wr); rw [hgb]; exact this
    simp [hn', h0', h7', h9, h10, hcl, hakl, huxl, hq1, hq2, hix, hlf, kseq_normal]
    refine (renc_sp h' ⟨2, false, m, f, []⟩ .nilsl (Sl.nil h' 1) (by simp)).mono ?_
    rintro r h4' ⟨y, rfl, hy, hp4, hfy⟩
    have hoi4 := hoi.pres (RLK p) hp4
    have hbe4 := hbe.pres hp4
    have hcl4 := hoi4.pl.cells
    have hlw4 : atCells Try.prog 3 (h4'.get b) o = some (i64 (w : Int)) := by rw [hp4.2 b hbl]; exact hlw
    have hwl : w < s2.up.length := by rw [e1]; omega
    obtain ⟨hixu, hatu⟩ := hoi4.pl.up.at hwl
    have hupw : s2.up[w] = s.up[w]'(by omega) := by simp [e1]
    obtain ⟨u0, us0, hux0'⟩ : ∃ u0 us0, usb s.up = u0 :: us0 := by
      cases hh : usb s.up with
      | nil => rw [hh] at hu0; simp at hu0
      | cons u us => exact ⟨u, us, rfl⟩
    obtain ⟨bu, ou, hbu, hixx, _, _, hatx⟩ := Sl.at_blk hbe4.sl sl79 sz3 0 (by rw [hux0']; simp [ints])
    have hatx : atCells Try.prog 3 (h4'.get bu) ou = some (i64 (u0 : Int)) := by
      have := hatx 0 3 ag3 (by omega)
      simp [hux0', ints] at this
      exact this
    have hixx : pindexAddr Try.prog 79 ux (i64 0) = some (.ptr bu ou) := hixx
    have hgw : s.up[w]? = some (s.up[w]'(by omega)) := List.getElem?_eq_getElem _
    obtain ⟨wA, hwA⟩ : ∃ wA, wA = ackW s.up (usb s.up) w := ⟨_, rfl⟩
    simp [hn']
    rw [kseq_normal]
    simp [hn', h0', h10, hcl4, hix, hlw4]
    rw [kseq_normal]
    rw [AW_seq]
    refine AW_cut (Q' := fun e fr3 h3 => e = .normal ∧ fr3.n = 247 ∧ fr3.get 9 = some x ∧ fr3.get 10 = some (i64 (k : Int)) ∧ fr3.get 11 = some y ∧ fr3.get 13 = some (i64 (ackW s.up (usb s.up) w)) ∧ h3 = h4') ?_ ?_
    · simp [hn', h0', h7', h9, h10, hcl4, hixu, hatu, hupw, kseq_normal]
      refine Br.mk (fun hb5 => ?_) (fun hb5 => ?_)
      · have e : ackW s.up (usb s.up) w = (w : Int) := by unfold ackW; simp [hgw, hb5]
        simp [hn', h9, h10, e, kseq_normal]
      · have e : ackW s.up (usb s.up) w = (u0 : Int) := by unfold ackW; simp [hgw, hb5, hux0']
        simp [hn', h7', h9, h10, e, hixx, hatx, kseq_normal]
    rintro e fr3 h3 ⟨rfl, hn3, h93, h103, h113, h133, rfl⟩
    rw [kseq_normal]
    have hbx : ∀ c, blk x = some c → c < h'.next := fun c hc => by obtain ⟨t, ht, _⟩ := hoi.out; exact ht.gw.blk_lt hc
    have hbey : Bes 1 h3 x y (byt (encO ⟨2, false, m, f, []⟩)) := ⟨hy, fun c hc e => by have := hfy c hc; have := hbx c e; omega⟩
    obtain ⟨x', h5', hap, hoi5, hgr⟩ := hoi4.app (w := ackW s.up (usb s.up) w) (RLK p) hbey (fun c hc => by have := hfy c hc; have := hoi.ev.next; omega) (t := 68) sl68 sz105 by105 z105 rfl (by omega) (by simp; omega)
    obtain ⟨hy1, hy2, hy3⟩ := Sl.one hy
    simp [hn3, h93, h113, h133, pb105_out _ hy1, pbs_one sl68 sz105 z105 rfl (by omega) (v := .agg [i64 (ackW s.up (usb s.up) w), y]) (by rfl) (by rw [allOne_row]; exact hy2), hap, h103, kseq_normal]
    rw [kloop_normal]
    refine ⟨A.length - (k + 1), by omega, hJ _ _ _ ⟨k + 1, x', rfl, by omega, by simp [wrap_nat k (by omega)], by simp, ?_, hbe4.grown hgr⟩⟩
    rw [htk, List.map_append]; exact hoi5
  rintro fr7 h7 ⟨x7, h97, hoi7, hbe7⟩ hfr
  have hn7 : fr7.n = 247 := hfr.1.trans (by simp [hn6])
  have h07 : fr7.get 0 = some (.ptr p 0) := (hfr.2 0 (by kernel_rfl)).trans (by simp [h06])
  have h17 : fr7.get 1 = some (i64 now) := (hfr.2 1 (by kernel_rfl)).trans (by simp [h16])
  have h77 : fr7.get 7 = some ux := (hfr.2 7 (by kernel_rfl)).trans (by simp [h76])
  have h87 : fr7.get 8 = some (.bool rs) := (hfr.2 8 (by kernel_rfl)).trans (by simp [h86])
  clear hfr hn6 h06 h16 h76 h86 h96
  rw [kblock_exit_eq, kseq_normal]
  have hcl7 := hoi7.pl.cells
  simp [hn7, h07, hcl7, rst_ak s2 v (x := .nilsl) rfl rfl]
  rw [kseq_normal]
  obtain ⟨hplN, hevN⟩ := hoi7.pl.of_ak (x := .nilsl) (s' := { s2 with acks := [] }) (h' := h7.set p (.cells 60 (rcells s2 { v with ak := .nilsl }) (some 0))) (by simp) (fun c _ hne _ => by rw [AHeap.get_set, if_neg (Ne.symm hne)]) (by simp) (Gw.nil _ 103 6) (fun c hc => by simp [blk] at hc)
  have hoi8 := hoi7.step hplN hevN (fun c hc => hlow c (by
    rcases hc with hc | hc | hc
    · rcases hc with hc | hc | hc | hc
      · exact .inl (.inl hc)
      · exact .inl (.inr (.inl hc))
      · exact .inl (.inr (.inr (.inl hc)))
      · simp [blk] at hc
    · exact .inr (.inl hc)
    · exact .inr (.inr hc))) (fun c hc _ => get_ne _ fun e => by omega)
  have hbe8 : Bes 1 (h7.set p (.cells 60 (rcells s2 { v with ak := .nilsl }) (some 0))) x7 ux (ints (usb s.up)) := ⟨Sl.keep hbe7.sl (by simp) fun c hc _ => get_ne _ fun e => by have := hux0 c hc; omega, hbe7.ne⟩
  obtain ⟨s4, hs4⟩ : ∃ s4 : S, s4 = { s2 with acks := [] } := ⟨_, rfl⟩
  obtain ⟨v2, hv2⟩ : ∃ v2 : V, v2 = { v with ak := .nilsl } := ⟨_, rfl⟩
  have hs4' : s4 = { s with clock := now, acks := [] } := by rw [hs4, hs2]
  rw [← hs4, ← hv2] at hoi8
  rw [← hv2] at hbe8
  rw [← hv2]
  refine AW_gen (fun fr' h' => fr'.n = 247 ∧ fr'.get 0 = some (.ptr p 0) ∧ fr'.get 1 = some (i64 now) ∧ fr'.get 7 = some ux ∧ fr'.get 8 = some (.bool rs) ∧ fr'.get 9 = some x7 ∧ OI (fun h s v => RL h p s v) 105 h1' p v h' s4 v2 x7 (A.map (ackO s.up (usb s.up))) ∧ Bes 1 h' x7 ux (ints (usb s.up)))
    ⟨by simp [hn7], by simp [h07], by simp [h17], by simp [h77], by simp [h87], by simp [h97], hoi8, hbe8⟩ ?_
  clear hoi8 hbe8 hplN hevN hn7 h07 h17 h77 h87 h97 hoi7 hbe7 hcl7
  rintro fr7 h7 ⟨hn7, h07, h17, h77, h87, h107, hoi7, hbe7⟩
  rw [AW_seq]
  refine AW_cut (Q' := fun e fr' h' => h' = h7 ∧ ((e = .normal ∧ (usb s.up).length ≠ 0 ∧ fr'.n = 247 ∧ fr'.get 0 = some (.ptr p 0) ∧ fr'.get 1 = some (i64 now) ∧ fr'.get 7 = some ux ∧ fr'.get 8 = some (.bool rs) ∧ fr'.get 9 = some x7) ∨ (e = .ret ∧ (usb s.up).length = 0 ∧ fr'.get 4 = some x7 ∧ fr'.get 5 = some (i64 0)))) ?_ ?_
  · simp [hn7, h77, huxl, kseq_normal]
    refine Br.mk (fun hb3 => ?_) (fun hb3 => ?_)
    · have hu0 : (usb s.up).length = 0 := by rw [ieq_true] at hb3; omega
      simp [hn7, h107, kseq_normal]
      exact List.length_eq_zero_iff.1 hu0
    · have hu0 : (usb s.up).length ≠ 0 := by rw [ieq_false] at hb3; omega
      simp [hn7, h07, h17, h77, h87, h107, kseq_normal]
      exact fun e => hu0 (List.length_eq_zero_iff.2 e)
  rintro e fr8 h8 ⟨rfl, ⟨rfl, hu0, hn8, h08, h18, h78, h88, h108⟩ | ⟨rfl, hu0, k4, k5⟩⟩
  case inr =>
    have : outR s now = (s4, [], 0) := by unfold outR; rw [hb1, hrs0, hC, hu0, hs4']; rfl
    have hA0 : A = [] := by rw [hA, if_pos hu0]
    rw [hA0] at hoi7
    simp [k4, k5, this]
    obtain ⟨t, ht, hm⟩ := hoi7.out
    exact ⟨⟨x7, t, rfl, ht, hm⟩, v2, hoi7.pl, hoi7.ev⟩
  clear hn7 h07 h17 h77 h87 h107
  rw [kseq_normal]
  have hA0 : A = s.acks := by rw [hA, if_neg hu0]
  rw [hA0] at hoi7
  have hOut : outR s now = (finS { s4 with repeats := (if rs then IntKind.i64.wrap (s4.repeats + 1) else s4.repeats) } (usb s.up) rs now (s.acks.map (ackO s.up (usb s.up))) 8, (finF { s4 with repeats := (if rs then IntKind.i64.wrap (s4.repeats + 1) else s4.repeats) } (usb s.up) rs (s.acks.map (ackO s.up (usb s.up))) 8).2, 0) := by
    unfold outR; rw [hb1, hrs0, hC, if_neg hu0, hs4']; rfl
  have e1' : s4.up = s.up := by rw [hs4']
  have e2' : s4.units = s.units := by rw [hs4']
  have e3' : s4.turn = s.turn := by rw [hs4']
  have e5' : s4.quality = s.quality := by rw [hs4']
  rw [hOut]
  rw [← e2'] at hul hud hunl hul3
  rw [← e3'] at htn
  rw [← e5'] at hqa
  clear hOut hrs0 hrs e2' e3' e5' hs4' hs4 e2 e3 e4 e5 hs2 hA hA0 hAg hAw hAc hAl e1
  have hcl7 := hoi7.pl.cells
  obtain ⟨R, hR⟩ : ∃ R, R = (if rs then IntKind.i64.wrap (s4.repeats + 1) else s4.repeats) := ⟨_, rfl⟩
  rw [← hR]
  rw [AW_seq]
  refine AW_cut (Q' := fun e fr' h' => e = .normal ∧ fr'.n = 247 ∧ fr'.get 0 = some (.ptr p 0) ∧ fr'.get 1 = some (i64 now) ∧ fr'.get 7 = some ux ∧ fr'.get 8 = some (.bool rs) ∧ fr'.get 9 = some x7 ∧ OI (fun h s v => RL h p s v) 105 h1' p v h' { s4 with repeats := R } v2 x7 (s.acks.map (ackO s.up (usb s.up))) ∧ Bes 1 h' x7 ux (ints (usb s.up))) ?_ ?_
  · simp [hn8, h88, kseq_normal]
    cases rs with
    | false => 
      simp [hn8, h08, h18, h78, h88, h108, kseq_normal]
      simp at hR
      rw [hR]; exact ⟨hoi7, hbe7⟩
    | true =>
      simp at hR
      simp [hn8, h08, h18, h78, h88, h108, hcl7, rst_repeats, kseq_normal]
      rw [← hR]
      have hpl8 := hoi7.pl.put { s4 with repeats := R }
      exact ⟨hoi7.step hpl8 (Ev.set _ _ _ _) hoi7.low fun c hc _ => get_ne _ fun e => by omega, Sl.keep hbe7.sl (by simp) fun c hc _ => get_ne _ fun e => by have := hfu c hc; omega, hbe7.ne⟩
  clear hn8 h08 h18 h78 h88 h108
  rintro e fr8 h8 ⟨rfl, hn8, h08, h18, h78, h88, h108, hoi8, hbe8⟩
  clear hoi7 hbe7
  rw [kseq_normal]
  obtain ⟨s3, hs3⟩ : ∃ s3 : S, s3 = { s4 with repeats := R } := ⟨_, rfl⟩
  obtain ⟨o1, ho1⟩ : ∃ o1, o1 = s.acks.map (ackO s.up (usb s.up)) := ⟨_, rfl⟩
  have ho1l : o1.length ≤ 100000 := by rw [ho1]; simpa using hal
  rw [← ho1, ← hs3]
  have e3u : s4.units = s3.units := by rw [hs3]
  have e3t : s4.turn = s3.turn := by rw [hs3]
  have e3q : s4.quality = s3.quality := by rw [hs3]
  rw [e3u] at hul hud hunl hul3
  rw [e3t] at htn
  rw [e3q] at hqa
  rw [← hs3, ← ho1] at hoi8
  have e3up : s3.up = s.up := by rw [hs3]; exact e1'
  clear hs3 ho1 e3u e3t e3q
  have hcl8 := hoi8.pl.cells
  have hfin : finF s3 (usb s.up) rs o1 8 = finF s3 (usb s.up) rs o1 (min 8 s3.units.length) ∧ finS s3 (usb s.up) rs now o1 8 = finS s3 (usb s.up) rs now o1 (min 8 s3.units.length) := by
    by_cases h8 : s3.units.length ≤ 8
    · rw [Nat.min_eq_right h8]; unfold finS finF; rw [List.take_of_length_le h8, List.take_of_length_le (Nat.le_refl _), List.drop_of_length_le h8, List.drop_of_length_le (Nat.le_refl _)]; exact ⟨rfl, rfl⟩
    · rw [Nat.min_eq_left (by omega)]; exact ⟨rfl, rfl⟩
  rw [hfin.1, hfin.2]
  clear hfin
  have hNl : min 8 s3.units.length ≤ s3.units.length := Nat.min_le_right _ _
  have hN8 : min 8 s3.units.length ≤ 8 := Nat.min_le_left _ _
  have hNi : ∀ k, (k < s3.units.length ∧ k < 8) ↔ k < min 8 s3.units.length := fun k => by omega
  generalize min 8 s3.units.length = N at *
  simp [hn8, kseq_normal]
  have hunx : ∀ {h : AHeap} {s' : S} {v' : V}, RL h p s' v' → s'.units.length = v'.rows.length := fun hp => hp.us.length
  have huxp : blk ux ≠ some p := fun e => by have := hux0 p e; omega
  have fin0 : finF s3 (usb s.up) rs o1 0 = (s3.turn, o1) := rfl
  have fins0 : finS s3 (usb s.up) rs now o1 0 = s3 := by unfold finS finF; rfl
  have hbnd : ∀ {M : Nat}, M ≤ N → 0 ≤ (finF s3 (usb s.up) rs o1 M).1 ∧ (finF s3 (usb s.up) rs o1 M).1 ≤ 1000000 ∧ (finF s3 (usb s.up) rs o1 M).2.length ≤ 200000 := fun {M} hM => by
    obtain ⟨b1, b2, b3⟩ := finF_bound (s3 := s3) (ups := usb s.up) (rs := rs) (o1 := o1) htn (N := M) (by omega) (by omega)
    refine ⟨b1, by omega, ?_⟩
    have : M * (usb s.up).length ≤ 8 * 8 := Nat.mul_le_mul (by omega) hupsl
    omega
  refine AW_cut_x 2 (fun fr' h' => ∃ v' x, fr'.get 9 = some x ∧ OI (fun h s v => RL h p s v) 105 h1' p v h' (finS s3 (usb s.up) rs now o1 N) v' x (finF s3 (usb s.up) rs o1 N).2) ?_ ?_
  · refine AW_loop_fr (fun m fr' h' => ∃ k v' x, m = N - k ∧ k ≤ N ∧ fr'.get 14 = some (i64 (k : Nat)) ∧ fr'.get 9 = some x ∧ OI (fun h s v => RL h p s v) 105 h1' p v h' (finS s3 (usb s.up) rs now o1 k) v' x (finF s3 (usb s.up) rs o1 k).2 ∧ Bes 1 h' x ux (ints (usb s.up))) N
      ⟨0, v2, x7, by simp, by omega, by simp, by simp [h108], by rw [fins0, fin0]; exact hoi8, hbe8⟩ ?_
    rintro J hJ m fr' h' ⟨k, v', x, rfl, hk, h140, h10, hoi, hbe⟩ hfr
    have hn' : fr'.n = 247 := hfr.1.trans (by simp [hn8])
    have hf0 : fr'.get 0 = some (.ptr p 0) := (hfr.2 0 (by kernel_rfl)).trans (by simp [h08])
    have hf1 : fr'.get 1 = some (i64 now) := (hfr.2 1 (by kernel_rfl)).trans (by simp [h18])
    have hf7 : fr'.get 7 = some ux := (hfr.2 7 (by kernel_rfl)).trans (by simp [h78])
    have hf8 : fr'.get 8 = some (.bool rs) := (hfr.2 8 (by kernel_rfl)).trans (by simp [h88])
    clear hfr
    have hcl := hoi.pl.cells
    have hrl := hunx hoi.pl
    rw [finS_len (by omega)] at hrl
    have hunl' : plen Try.prog 57 v'.un = some (i64 (s3.units.length : Int)) := by have := hoi.pl.un.sl.len sl57; rw [← hrl] at this; exact this
    by_cases hk1 : k < N
    case neg =>
      have : k = N := by omega
      subst this
      have hNk := hNi k
      cases hq : ilt (k : Int) (s3.units.length : Int)
      · simp [hn', hf0, h10, h140, hcl, hunl', hq, kseq_normal]
        exact ⟨v', hoi⟩
      · have hq2 : ilt (k : Int) 8 = false := by rw [ilt_true] at hq; rw [ilt_false]; omega
        simp [hn', hf0, h10, h140, hcl, hunl', hq, hq2, kseq_normal]
        exact ⟨v', hoi⟩
    have hkl : k < s3.units.length := by omega
    have hq : ilt (k : Int) (s3.units.length : Int) = true := by rw [ilt_true]; omega
    have hq2 : ilt (k : Int) 8 = true := by rw [ilt_true]; omega
    have hNs := hNi k
    simp [hn', hf0, h140, hcl, hunl', hq, hq2]
    rw [kseq_normal]
    simp [hn', hf0, h140, hcl, hunl', hq, hq2]
    rw [kseq_normal]
    rw [AW_seq, AW_block]
    obtain ⟨b, o, ty, cs, wr, hub, hix, hbl, hgb, hle, hrow⟩ := hoi.pl.un.sl.raw sl57 sz94 k (by omega)
    obtain ⟨r0, hr0, d0, rfl, hd0⟩ := hoi.pl.us.get k s3.units[k] (finS_get hkl)
    rw [List.getElem?_eq_getElem (by omega)] at hr0
    rw [Option.some.inj hr0] at hrow
    have hat : atCells Try.prog 2 (h'.get b) (o + 5) = some (i64 s3.units[k].at_) := by rw [hgb, one_load ag2 hle hrow (by omega)]; rfl
    have hld : atCells Try.prog 92 (h'.get b) o = some (.agg ((frmU s3.units[k]).cells d0)) := by
      have := sub_load (f := 0) ag92 sz92 hle hrow (by omega) (ty := ty) (wr := wr)
      rw [hgb]; exact this
    have hdl := hud s3.units[k] (List.getElem_mem _)
    have hno := finS_no (s3 := s3) (ups := usb s.up) (rs := rs) (now := now) (o1 := o1) hkl
    have hyes := finS_yes (s3 := s3) (ups := usb s.up) (rs := rs) (now := now) (o1 := o1) hkl
    have hku : k < (finS s3 (usb s.up) rs now o1 k).units.length := by rw [finS_len (by omega)]; exact hkl
    have hug : (finS s3 (usb s.up) rs now o1 k).units[k] = s3.units[k] := by
      have := finS_get (ups := usb s.up) (rs := rs) (now := now) (o1 := o1) hkl
      rw [List.getElem?_eq_getElem hku] at this; exact Option.some.inj this
    generalize s3.units[k] = u at *
    cases hsd : sendU rs u with
    | false =>
      have hrs : rs = false ∧ ilt u.at_ 0 = false := by unfold sendU at hsd; simpa using hsd
      obtain ⟨hE1, hE2⟩ := hno hsd
      simp [hn', hf0, hf8, hcl, hix, hrs.1, hat, hrs.2, h140, kseq_normal]
      rw [kloop_normal]
      refine ⟨N - (k + 1), by omega, hJ _ _ _ ⟨k + 1, v', x, rfl, hk1, by simp [wrap_nat k (by omega)], by simp [h10], ?_, hbe⟩⟩
      rw [hE1, hE2]; exact hoi
    | true =>
      rw [AW_seq]
      refine AW_cut (Q' := fun e fr2 h2 => e = .normal ∧ h2 = h' ∧ fr2.n = 247 ∧ fr2.get 0 = some (.ptr p 0) ∧ fr2.get 1 = some (i64 now) ∧ fr2.get 7 = some ux ∧ fr2.get 9 = some x ∧ fr2.get 14 = some (i64 (k : Int))) ?_ ?_
      · cases hrs : rs with
        | true => simp [hn', hf0, hf1, hf7, hf8, hrs, h10, h140, kseq_normal]
        | false =>
          have hat0 : ilt u.at_ 0 = true := by unfold sendU at hsd; rw [hrs] at hsd; simpa using hsd
          simp [hn', hf0, hf1, hf7, hf8, hcl, hix, hrs, h10, h140, hat, hat0, kseq_normal]
      rintro e fr2 h2 ⟨rfl, rfl, hn2, h02, h12, h72, h102, h1402⟩
      obtain ⟨hE1, hE2⟩ := hyes hsd
      clear hno hyes hn' hf0 hf1 hf7 hf8 h10 h140
      rw [kseq_normal]
      -- the bytes
      simp [hn2, h02, h1402, hcl, hix, hld]
      refine (renc_sp h2 (frmU u) d0 hd0 hdl).mono ?_
      rintro r hC2 ⟨z, rfl, hz, hpC, hfz⟩
      have hbx : ∀ c, blk x = some c → c < h2.next := fun c hc => by obtain ⟨t, ht, _⟩ := hoi.out; exact ht.gw.blk_lt hc
      have hbz : Bes 1 hC2 x z (byt (encO (frmU u))) := ⟨hz, fun c hc e => by have := hfz c hc; have := hbx c e; omega⟩
      have hzf : ∀ c, blk z = some c → h1'.next ≤ c := fun c hc => by have := hfz c hc; have := hoi.ev.next; omega
      obtain ⟨hz1, hz2, hz3⟩ := Sl.one hz
      have hoiC := hoi.pres (RLK p) hpC
      have hbeC := hbe.pres hpC
      have hclC := hoiC.pl.cells
      obtain ⟨b2, o2, ob, vA, hub2, hix2, hst, hplA, hevA, hA1, hA2, hA3, hA4⟩ := hoiC.pl.mark hku now
      rw [hug] at hplA
      rw [hix] at hix2
      obtain ⟨rfl, rfl⟩ : b = b2 ∧ o = o2 := by simpa using hix2
      have hbn : b < h1'.next := hoi.low b (.inl (.inr (.inr (.inl hub))))
      have hoiA := hoiC.step hplA hevA (fun c hc => hoi.low c (by rw [hA2] at hc; exact hc.imp (hA3 c) (Or.imp_left (hA4 c)))) (fun c hc _ => get_ne _ fun e => by omega)
      have hbeA : Bes 1 (hC2.set b ob) x ux (ints (usb s.up)) := ⟨Sl.keep hbeC.sl (by simp) fun c hc _ => get_ne _ fun e => by have := hux0 c hc; omega, hbe.ne⟩
      have hbzA : Bes 1 (hC2.set b ob) x z (byt (encO (frmU u))) := ⟨Sl.keep hbz.sl (by simp) fun c hc _ => get_ne _ fun e => by have := hzf c hc; omega, hbz.ne⟩
      simp [hn2]
      rw [kseq_normal]
      simp [hn2, h02, h12, h1402, hclC, hix, hst]
      rw [kseq_normal]
      obtain ⟨hb1', hb2', hb3'⟩ := hbnd (M := k) (by omega)
      obtain ⟨sA, hsA⟩ : ∃ sA : S, sA = { finS s3 (usb s.up) rs now o1 k with units := (finS s3 (usb s.up) rs now o1 k).units.set k { u with at_ := now } } := ⟨_, rfl⟩
      rw [← hsA] at hplA hoiA
      have hsq : sA.quality = s3.quality := by rw [hsA]; rfl
      have hst' : sA.turn = (finF s3 (usb s.up) rs o1 k).1 := by rw [hsA]; rfl
      have hEA : finS s3 (usb s.up) rs now o1 (k + 1) = { sA with turn := turnQ sA.quality sA.turn } := by rw [hE1, hsq, hst', hsA]; rfl
      have htb : 0 ≤ sA.turn ∧ sA.turn ≤ 1000000 := by rw [hst']; exact ⟨hb1', hb2'⟩
      rw [← hst', ← hsq] at hE2
      rw [← hsq] at hqa
      refine AW_gen (fun fr3 h3 => fr3.n = 247 ∧ fr3.get 0 = some (.ptr p 0) ∧ fr3.get 7 = some ux ∧ fr3.get 9 = some x ∧ fr3.get 14 = some (i64 (k : Int)) ∧ fr3.get 15 = some z ∧ OI (fun h s v => RL h p s v) 105 h1' p v h3 sA vA x (finF s3 (usb s.up) rs o1 k).2 ∧ Bes 1 h3 x ux (ints (usb s.up)) ∧ Bes 1 h3 x z (byt (encO (frmU u)))) ⟨by simp [hn2], by simp [h02], by simp [h72], by simp [h102], by simp [h1402], by simp, hoiA, hbeA, hbzA⟩ ?_
      clear hn2 h02 h12 h72 h102 h1402 hplA hoiA hbeA hbzA hbz hz hoiC hbeC hevA hst
      rintro fr3 h3 ⟨hn3, h03, h73, h93, h143, h153, hoiA, hbeA, hbzA⟩
      have hclA := hoiA.pl.cells
      simp [hn3, h03, hclA]
      rw [kseq_normal]
      have hone : ∀ (w : Nat) {h3 : AHeap} {s' : S} {xj : AV} {l : List (Int × List UInt8)}, OI (fun h s v => RL h p s v) 105 h1' p v h3 s' vA xj l → Bes 1 h3 xj z (byt (encO (frmU u))) → l.length ≤ 1000000 → ∃ x' h5, aappend Try.prog (h3.new (.cells 105 [i64 ((w : Nat) : Int), z] (some 0))) [68, 68] [xj, .sl h3.next 0 0 1 (.at_ 1)] = some (x', h5) ∧ OI (fun h s v => RL h p s v) 105 h1' p v h5 s' vA x' (l ++ [((w : Int), encO (frmU u))]) ∧ Grown h3 xj h5 x' := fun w h3 s' xj l ho hb hl =>
        ho.app (w := (w : Int)) (RLK p) hb hzf (t := 68) sl68 sz105 by105 z105 rfl (by omega) hl
      refine AW_cut (Q' := fun e fr4 h4 => e = .normal ∧ fr4.n = 247 ∧ fr4.get 14 = some (i64 (k : Int)) ∧ ∃ xj, fr4.get 9 = some xj ∧ OI (fun h s v => RL h p s v) 105 h1' p v h4 (finS s3 (usb s.up) rs now o1 (k + 1)) vA xj (finF s3 (usb s.up) rs o1 (k + 1)).2 ∧ Bes 1 h4 xj ux (ints (usb s.up))) ?_ ?_
      · have hlx : ∀ (w : Nat) (hw : w < (usb s.up).length), ∃ bu ou, pindexAddr Try.prog 79 ux (i64 (w : Int)) = some (.ptr bu ou) ∧ ∀ {h3 : AHeap} {xj : AV}, Bes 1 h3 xj ux (ints (usb s.up)) → atCells Try.prog 3 (h3.get bu) ou = some (i64 ((usb s.up)[w] : Int)) := fun w hw => by
          obtain ⟨bu, ou, hbu, hixx, _, _, hatx⟩ := Sl.at_blk hbeA.sl sl79 sz3 w (by simpa [ints] using hw)
          refine ⟨bu, ou, hixx, fun {h3 xj} hb => ?_⟩
          obtain ⟨bu2, ou2, hbu2, hixx2, _, _, hatx2⟩ := Sl.at_blk hb.sl sl79 sz3 w (by simpa [ints] using hw)
          rw [hixx] at hixx2
          obtain ⟨rfl, rfl⟩ : bu = bu2 ∧ ou = ou2 := by simpa using hixx2
          have := hatx2 0 3 ag3 (by omega)
          simp [ints, hw] at this
          exact this
        rcases hqa with hq0 | hq0 | hq0
        · have hT : finS s3 (usb s.up) rs now o1 (k + 1) = sA := by
            have : turnQ sA.quality sA.turn = sA.turn := by rw [hq0]; rfl
            rw [hEA, this]
          rw [hE2, hq0, wiresQ_0 _ _ (by omega), hT]
          obtain ⟨bu, ou, hixx, hatx⟩ := hlx 0 (by omega)
          have hatx := hatx hbeA
          have hixx : pindexAddr Try.prog 79 ux (i64 0) = some (.ptr bu ou) := hixx
          obtain ⟨x', h5, hap, hoi5, hgr⟩ := hone ((usb s.up)[0]'(by omega)) hoiA hbzA (by omega)
          have hlast := hbeA.grown hgr
          have e00 : ieq 0 0 = true := rfl
          simp [hn3, h03, h73, h93, h143, h153, hq0, e00, hixx, hatx, pb105_out _ hz1, pbs_one sl68 sz105 z105 rfl (by omega) (v := .agg [i64 (((usb s.up)[0]'(by omega) : Nat) : Int), z]) (by rfl) (by rw [allOne_row]; exact hz2), hap, kseq_normal]
          exact ⟨hoi5, hlast⟩
        · have hjl : sA.turn.toNat % (usb s.up).length < (usb s.up).length := Nat.mod_lt _ (by omega)
          rw [hE2, hq0, wiresQ_1 _ _ hjl, hEA, hq0]
          obtain ⟨j, hj⟩ : ∃ j, j = sA.turn.toNat % (usb s.up).length := ⟨_, rfl⟩
          have hrem : sA.turn.tmod ((usb s.up).length : Int) = (j : Int) := by
            have e1 : sA.turn = ((sA.turn.toNat : Nat) : Int) := (Int.toNat_of_nonneg htb.1).symm
            rw [e1, hj]; exact (Int.ofNat_tmod _ _).symm
          have hrm : ∀ a b : Operand, bin2 Try.prog .rem 3 a b (some (i64 sA.turn)) (some (i64 ((usb s.up).length : Int))) = some (i64 (j : Int)) := fun a b => by rw [bin2_rem _ _ _ (by omega), hrem]
          rw [← hj] at hjl
          obtain ⟨bu, ou, hixx, hatx⟩ := hlx j hjl
          have hatx := hatx hbeA
          have hjw : (usb s.up)[sA.turn.toNat % (usb s.up).length]'(by rw [← hj]; exact hjl) = (usb s.up)[j] := by simp [hj]
          rw [hjw]
          obtain ⟨x', h5, hap, hoi5, hgr⟩ := hone ((usb s.up)[j]) hoiA hbzA (by omega)
          have hlast := hbeA.grown hgr
          have hcl5 := hoi5.pl.cells
          have e10 : ieq 1 0 = false := rfl
          have e11 : ieq 1 1 = true := rfl
          have eT : turnQ 1 sA.turn = IntKind.i64.wrap (sA.turn + 1) := rfl
          rw [eT]
          simp [hn3, h03, h73, h93, h143, h153, hq0, e10, e11, hclA, huxl, hrm, hixx, hatx, pb105_out _ hz1, pbs_one sl68 sz105 z105 rfl (by omega) (v := .agg [i64 (((usb s.up)[j] : Nat) : Int), z]) (by rfl) (by rw [allOne_row]; exact hz2), hap, hcl5, rst_turn, kseq_normal]
          exact ⟨hoi5.step (hoi5.pl.put _) (Ev.set _ _ _ _) hoi5.low fun c hc _ => get_ne _ fun e => by omega, Sl.keep hlast.sl (by simp) fun c hc _ => get_ne _ fun e => by have := hux0 c hc; omega, hlast.ne⟩
        · have hT : finS s3 (usb s.up) rs now o1 (k + 1) = sA := by
            have : turnQ sA.quality sA.turn = sA.turn := by rw [hq0]; rfl
            rw [hEA, this]
          rw [hE2, hq0, wiresQ_2, hT]
          have e20 : ieq 2 0 = false := rfl
          have e21 : ieq 2 1 = false := rfl
          have e22 : ieq 2 2 = true := rfl
          simp [hn3, hq0, e20, e21, e22, kseq_normal]
          refine AW_cut_x 5 (fun fr4 h4 => ∃ xj, fr4.get 9 = some xj ∧ OI (fun h s v => RL h p s v) 105 h1' p v h4 sA vA xj ((finF s3 (usb s.up) rs o1 k).2 ++ (usb s.up).map fun (w : Nat) => ((w : Int), encO (frmU u))) ∧ Bes 1 h4 xj ux (ints (usb s.up))) ?_ ?_
          · refine AW_loop_fr (fun m fr4 h4 => ∃ j xj, m = (usb s.up).length - j ∧ j ≤ (usb s.up).length ∧ fr4.get 17 = some (i64 (j : Nat)) ∧ fr4.get 9 = some xj ∧ OI (fun h s v => RL h p s v) 105 h1' p v h4 sA vA xj ((finF s3 (usb s.up) rs o1 k).2 ++ ((usb s.up).take j).map fun (w : Nat) => ((w : Int), encO (frmU u))) ∧ Bes 1 h4 xj ux (ints (usb s.up)) ∧ Bes 1 h4 xj z (byt (encO (frmU u)))) (usb s.up).length
              ⟨0, x, by simp, by omega, by simp, by simp [h93], by simpa using hoiA, hbeA, hbzA⟩ ?_
            rintro J2 hJ2 m fr4 h4 ⟨j, xj, rfl, hj, h174, h94, hoi4, hbe4, hbz4⟩ hfr4
            have hn4 : fr4.n = 247 := hfr4.1.trans (by simp [hn3])
            have h74 : fr4.get 7 = some ux := (hfr4.2 7 (by kernel_rfl)).trans (by simp [h73])
            have h154 : fr4.get 15 = some z := (hfr4.2 15 (by kernel_rfl)).trans (by simp [h153])
            clear hfr4
            simp [hn4, h74, h174, huxl, kseq_normal]
            refine Br.mk (fun hb5 => ?_) (fun hb5 => ?_)
            case refine_2 =>
              have : j = (usb s.up).length := by rw [ilt_false] at hb5; omega
              subst this
              simp [hn4, h94, kseq_normal]
              rw [List.take_length] at hoi4
              exact ⟨hoi4, hbe4⟩
            have hj1 : j < (usb s.up).length := by rw [ilt_true] at hb5; omega
            obtain ⟨bu, ou, hixx, hatx⟩ := hlx j hj1
            have hatx := hatx hbe4
            obtain ⟨x', h5, hap, hoi5, hgr⟩ := hone ((usb s.up)[j]) hoi4 hbz4 (by simp; omega)
            simp [hn4, h74, h94, h174, h154, hixx, hatx, pb105_out _ hz1, pbs_one sl68 sz105 z105 rfl (by omega) (v := .agg [i64 (((usb s.up)[j] : Nat) : Int), z]) (by rfl) (by rw [allOne_row]; exact hz2), hap, kseq_normal]
            rw [kloop_normal]
            refine ⟨(usb s.up).length - (j + 1), by omega, hJ2 _ _ _ ⟨j + 1, x', rfl, by omega, by simp [wrap_nat j (by omega)], by simp, ?_, hbe4.grown hgr, hbz4.grown hgr⟩⟩
            rw [List.append_assoc] at hoi5
            rw [List.take_add_one, List.getElem?_eq_getElem hj1]
            show OI _ _ _ _ _ _ _ _ _ ((finF s3 (usb s.up) rs o1 k).2 ++ List.map _ (_ ++ [_]))
            rw [List.map_append]; exact hoi5
          rintro fr4 h4 ⟨xj, h94, hoi4, hbe4⟩ hfr4
          have hn4 : fr4.n = 247 := hfr4.1.trans (by simp [hn3])
          have h144 : fr4.get 14 = some (i64 (k : Int)) := (hfr4.2 14 (by kernel_rfl)).trans (by simp [h143])
          clear hfr4
          rw [kblock_exit_eq]
          simp [hn4, h94, h144]
          exact ⟨hoi4, hbe4⟩
      rintro e fr4 h4 ⟨rfl, hn4, h144, xj, h94, hoi4, hbe4⟩
      simp [hn4, h144, kseq_normal]
      rw [kloop_normal]
      exact ⟨N - (k + 1), by omega, hJ _ _ _ ⟨k + 1, vA, xj, rfl, hk1, by simp [wrap_nat k (by omega)], by simp [h94], hoi4, hbe4⟩⟩
  rintro fr9 h9 ⟨v', x9, h109, hoi9⟩ hfr
  have hn9 : fr9.n = 247 := hfr.1.trans (by simp [hn8])
  clear hfr
  rw [kblock_exit_eq]
  simp [hn9, h109, kseq_normal]
  obtain ⟨t, ht, hm⟩ := hoi9.out
  exact ⟨⟨x9, t, rfl, ht, hm⟩, v', hoi9.pl, hoi9.ev⟩
end Go.Eng.L35
