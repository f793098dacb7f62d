/- Law 35: Output of the program. -/
import Derived.Test.YtcjgagkkanokjabL35S
namespace Go.Eng.L35
open Go.Proofs Go.Eng
def frmU (u : U) : Fm := ⟨1, u.last, u.msg, u.frag, u.data⟩
/-- Is it time to send all again? -/
def resR (s : S) (now : Int) : Bool := match s.units with
  | [] => false
  | u :: _ => !(ilt u.at_ 0) && !(ilt (IntKind.i64.wrap (now - u.at_)) s.timeout)
def sendU (rs : Bool) (u : U) : Bool := rs || ilt u.at_ 0
def markU (rs : Bool) (now : Int) (u : U) : U := if sendU rs u then { u with at_ := now } else u
def ackW (up : List Bool) (ups : List Nat) (w : Int) : Int := if up[w.toNat]? == some true then w else ((ups.head?.getD 0 : Nat) : Int)
def ackO (up : List Bool) (ups : List Nat) (a : Int × Int × Int) : Int × List UInt8 := (ackW up ups a.1, encO ⟨2, false, a.2.1, a.2.2, []⟩)
def outF (q : Int) (ups : List Nat) (rs : Bool) (r : Int × List (Int × List UInt8)) (u : U) : Int × List (Int × List UInt8) :=
  if sendU rs u then (turnQ q r.1, r.2 ++ (wiresQ q r.1 ups).map fun (w : Nat) => ((w : Int), encO (frmU u))) else r
def outR (s : S) (now : Int) : S × List (Int × List UInt8) × Int :=
  if ieq (timeE s now) 0 then
    if resR s now && ilt 0 ((usb s.up).length : Int) && ieq s.repeats 6 then ({ s with broke := true }, [], 4) else
    if (usb s.up).length = 0 then ({ s with clock := now, acks := [] }, [], 0) else
    ({ s with clock := now, acks := [], repeats := (if resR s now then IntKind.i64.wrap (s.repeats + 1) else s.repeats), units := (s.units.take 8).map (markU (resR s now) now) ++ s.units.drop 8, turn := ((s.units.take 8).foldl (outF s.quality (usb s.up) (resR s now)) (s.turn, s.acks.map (ackO s.up (usb s.up)))).1 },
     ((s.units.take 8).foldl (outF s.quality (usb s.up) (resR s now)) (s.turn, s.acks.map (ackO s.up (usb s.up)))).2, 0)
  else (s, [], timeE s now)
/-- The state and the frames when N units were looked at. -/
def finF (s3 : S) (ups : List Nat) (rs : Bool) (o1 : List (Int × List UInt8)) (N : Nat) : Int × List (Int × List UInt8) := (s3.units.take N).foldl (outF s3.quality ups rs) (s3.turn, o1)
def finS (s3 : S) (ups : List Nat) (rs : Bool) (now : Int) (o1 : List (Int × List UInt8)) (N : Nat) : S := { s3 with units := (s3.units.take N).map (markU rs now) ++ s3.units.drop N, turn := (finF s3 ups rs o1 N).1 }
theorem finF_succ {s3 : S} {ups : List Nat} {rs : Bool} {o1 : List (Int × List UInt8)} {N : Nat} (hN : N < s3.units.length) : finF s3 ups rs o1 (N + 1) = outF s3.quality ups rs (finF s3 ups rs o1 N) s3.units[N] := by
  unfold finF; rw [foldl_take _ _ _ hN]
theorem finS_len {s3 : S} {ups : List Nat} {rs : Bool} {now : Int} {o1 : List (Int × List UInt8)} {N : Nat} (hN : N ≤ s3.units.length) : (finS s3 ups rs now o1 N).units.length = s3.units.length := by
  simp only [finS, List.length_append, List.length_map, List.length_take, List.length_drop]; omega
theorem finS_get {s3 : S} {ups : List Nat} {rs : Bool} {now : Int} {o1 : List (Int × List UInt8)} {N : Nat} (hN : N < s3.units.length) : (finS s3 ups rs now o1 N).units[N]? = some s3.units[N] := by
  have e : ((s3.units.take N).map (markU rs now)).length = N := by simp; omega
  simp only [finS]
  rw [List.getElem?_append_right (by omega), e, Nat.sub_self, List.getElem?_drop, Nat.add_zero, List.getElem?_eq_getElem hN]
theorem finS_units {s3 : S} {ups : List Nat} {rs : Bool} {now : Int} {o1 : List (Int × List UInt8)} {N : Nat} (hN : N < s3.units.length) : (finS s3 ups rs now o1 (N + 1)).units = (finS s3 ups rs now o1 N).units.set N (markU rs now s3.units[N]) := by
  have e : ((s3.units.take N).map (markU rs now)).length = N := by simp; omega
  simp only [finS]
  rw [List.set_append_right _ _ (by omega), e, Nat.sub_self, List.drop_eq_getElem_cons hN, List.set_cons_zero, List.take_add_one, List.getElem?_eq_getElem hN]
  show List.map _ (_ ++ [_]) ++ _ = _
  rw [List.map_append, List.append_assoc]; rfl
theorem finS_no {s3 : S} {ups : List Nat} {rs : Bool} {now : Int} {o1 : List (Int × List UInt8)} {N : Nat} (hN : N < s3.units.length) (hs : sendU rs s3.units[N] = false) : finS s3 ups rs now o1 (N + 1) = finS s3 ups rs now o1 N ∧ finF s3 ups rs o1 (N + 1) = finF s3 ups rs o1 N := by
  have h1 : finF s3 ups rs o1 (N + 1) = finF s3 ups rs o1 N := by rw [finF_succ hN]; unfold outF; rw [if_neg (by simp [hs])]
  have h2 := finS_units (ups := ups) (rs := rs) (now := now) (o1 := o1) hN
  have h3 : markU rs now s3.units[N] = s3.units[N] := by unfold markU; rw [if_neg (by simp [hs])]
  rw [h3] at h2
  have h4 : (finS s3 ups rs now o1 N).units.set N s3.units[N] = (finS s3 ups rs now o1 N).units := by
    refine List.ext_getElem? fun i => ?_
    rw [List.getElem?_set]
    split
    · rename_i e; subst e; split
      · rw [finS_get hN]
      · rename_i h; exact absurd (by rw [finS_len (by omega)]; exact hN) h
    · rfl
  rw [h4] at h2
  refine ⟨?_, h1⟩
  have : finS s3 ups rs now o1 (N + 1) = { finS s3 ups rs now o1 N with units := (finS s3 ups rs now o1 (N + 1)).units, turn := (finF s3 ups rs o1 (N + 1)).1 } := rfl
  rw [this, h2, h1]; rfl
theorem finS_yes {s3 : S} {ups : List Nat} {rs : Bool} {now : Int} {o1 : List (Int × List UInt8)} {N : Nat} (hN : N < s3.units.length) (hs : sendU rs s3.units[N] = true) :
    finS s3 ups rs now o1 (N + 1) = { finS s3 ups rs now o1 N with units := (finS s3 ups rs now o1 N).units.set N { s3.units[N] with at_ := now }, turn := turnQ s3.quality (finF s3 ups rs o1 N).1 } ∧
    (finF s3 ups rs o1 (N + 1)).2 = (finF s3 ups rs o1 N).2 ++ (wiresQ s3.quality (finF s3 ups rs o1 N).1 ups).map fun (w : Nat) => ((w : Int), encO (frmU s3.units[N])) := by
  have h1 : finF s3 ups rs o1 (N + 1) = (turnQ s3.quality (finF s3 ups rs o1 N).1, (finF s3 ups rs o1 N).2 ++ (wiresQ s3.quality (finF s3 ups rs o1 N).1 ups).map fun (w : Nat) => ((w : Int), encO (frmU s3.units[N]))) := by rw [finF_succ hN]; unfold outF; rw [if_pos hs]
  have h2 := finS_units (ups := ups) (rs := rs) (now := now) (o1 := o1) hN
  have h3 : markU rs now s3.units[N] = { s3.units[N] with at_ := now } := by unfold markU; rw [if_pos hs]
  rw [h3] at h2
  refine ⟨?_, by rw [h1]⟩
  have : finS s3 ups rs now o1 (N + 1) = { finS s3 ups rs now o1 N with units := (finS s3 ups rs now o1 (N + 1)).units, turn := (finF s3 ups rs o1 (N + 1)).1 } := rfl
  rw [this, h2, h1]
theorem wiresQ_len (q t : Int) (ups : List Nat) : (wiresQ q t ups).length ≤ ups.length := by
  unfold wiresQ
  split
  · simp; omega
  · split
    · simp; omega
    · exact Nat.le_refl _
theorem finF_bound {s3 : S} {ups : List Nat} {rs : Bool} {o1 : List (Int × List UInt8)} (ht : 0 ≤ s3.turn ∧ s3.turn ≤ 900000) : ∀ {N : Nat}, N ≤ s3.units.length → N ≤ 8 → 0 ≤ (finF s3 ups rs o1 N).1 ∧ (finF s3 ups rs o1 N).1 ≤ s3.turn + N ∧ (finF s3 ups rs o1 N).2.length ≤ o1.length + N * ups.length
  | 0, _, _ => by simp [finF]; exact ht.1
  | N + 1, h, h8 => by
    obtain ⟨i1, i2, i3⟩ := finF_bound ht (N := N) (by omega) (by omega)
    rw [finF_succ (by omega)]
    unfold outF
    have hw := wiresQ_len s3.quality (finF s3 ups rs o1 N).1 ups
    split
    · refine ⟨?_, ?_, ?_⟩
      · unfold turnQ; repeat' split
        all_goals first | omega | (rw [wrap_in (by omega)]; omega)
      · unfold turnQ; repeat' split
        all_goals first | omega | (rw [wrap_in (by omega)]; omega)
      · simp only [List.length_append, List.length_map]; rw [Nat.succ_mul]; omega
    · exact ⟨i1, by omega, by rw [Nat.succ_mul]; omega⟩
/-- The answer of Output. -/
def outA (e : Nat) (h h' : AHeap) (l : List (Int × List UInt8)) (er : Int) (r : AV) : Prop :=
  ∃ x t, r = .tuple [x, i64 er] ∧ Outs e h.next h' x t ∧ t.map (fun q => (q.1, q.2.2)) = l
theorem Outs.nil (e n0 : Nat) (h : AHeap) : Outs e n0 h .nilsl [] := ⟨Gw.nil h e 2, by simp, fun c hc => by simp [blk] at hc⟩
theorem outA.nil (e : Nat) (h h' : AHeap) (er : Int) : outA e h h' [] er (.tuple [.nilsl, i64 er]) := ⟨_, [], rfl, Outs.nil e _ h', rfl⟩
theorem pb48_out (w : Int) {y : AV} (hy : y.cells = [y]) : pbuild Try.prog 48 [(0, i64 w), (1, y)] = some (.agg [i64 w, y]) := by
  rw [pb48]; simp [bstep, splice, hy]
theorem allOne_row (w : Int) (y : AV) : allOne (.agg [i64 w, y]) = AV.one y := by simp [allOne, AV.cells, AV.one]
theorem URs.set {h : AHeap} {u : U} {row : List AV} (hu : UR h u row) : ∀ {us rows} (k : Nat), URs h us rows → URs h (us.set k u) (rows.set k row)
  | _, _, _, .nil => by simpa using URs.nil
  | _, _, 0, .cons _ r => .cons hu r
  | _, _, k + 1, .cons hv r => .cons hv (URs.set hu k r)
theorem mem_set_rows {rows : List (List AV)} {k : Nat} {row : List AV} (hk : k < rows.length) (hb : rowB row = rowB rows[k]) : ∀ r ∈ rows.set k row, ∀ c, rowB r = some c → ∃ r' ∈ rows, rowB r' = some c := by
  intro r hr c hc
  rcases List.mem_or_eq_of_mem_set hr with h | h
  · exact ⟨r, h, hc⟩
  · subst h; exact ⟨rows[k], List.getElem_mem _, by rw [← hb]; exact hc⟩
/-- The time of a unit is written. -/
theorem PL.mark {h : AHeap} {p : Nat} {s : S} {v : V} (hp : PL h p s v) {k : Nat} (hk : k < s.units.length) (now : Int) :
    ∃ b o ob v', blk v.un = some b ∧ pindexAddr Try.prog 53 v.un (i64 (k : Int)) = some (.ptr b o) ∧ stc Try.prog 2 (h.get b) (o + 5) (i64 now) = some ob ∧
      PL (h.set b ob) p { s with units := s.units.set k { s.units[k] with at_ := now } } v' ∧ Ev h (h.set b ob) p v v' ∧ v'.un = v.un ∧ v'.pt = v.pt ∧ (∀ c, v'.W p c → v.W p c) ∧ (∀ c, v'.R c → v.R c) := by
  have hl := hp.us.length
  obtain ⟨b, o, ob, hb, hix, hbl, hst, hgw⟩ := hp.un.put (P := Try.prog) (v := i64 now) sl53 sz78 k (by omega) sz2 (f := 5) (by omega) rfl rfl
  obtain ⟨r0, hr0, d0, rfl, hd0⟩ := hp.us.get k s.units[k] (List.getElem?_eq_getElem hk)
  rw [List.getElem?_eq_getElem (by omega)] at hr0
  have hrow := Option.some.inj hr0
  have hpb : p ≠ b := fun e => hp.away.un (by rw [hb, e])
  have hkeep : ∀ c, c ≠ b → (h.set b ob).get c = h.get c := fun c hc => get_ne _ (Ne.symm hc)
  have hU : URs (h.set b ob) s.units v.rows := hp.us.keep (by simp) fun c hc _ => hkeep c fun e => (hp.sep c hc).1 (.inr (.inr (.inl (by rw [hb, e]))))
  have hd0' : Bs (h.set b ob) d0 s.units[k].data := Sl.keep hd0 (by simp) fun c hc _ => hkeep c fun e => (hp.sep c ⟨v.rows[k], List.getElem_mem _, by rw [hrow]; exact hc⟩).1 (.inr (.inr (.inl (by rw [hb, e]))))
  have hrb : rowB (v.rows[k].set 5 (i64 now)) = rowB v.rows[k] := by rw [hrow]; rfl
  obtain ⟨r1, r2⟩ := hp.of_un (x := v.un) (rows' := v.rows.set k (v.rows[k].set 5 (i64 now))) (s' := { s with units := s.units.set k { s.units[k] with at_ := now } }) (h' := h.set b ob) (by simp) (fun c _ _ hc => hkeep c fun e => hc (by rw [hb, e])) (by rw [get_ne _ (Ne.symm hpb)]; exact hp.cells) hgw
    (URs.set (u := { s.units[k] with at_ := now }) (row := v.rows[k].set 5 (i64 now)) ⟨d0, by rw [hrow]; rfl, hd0'⟩ k hU) (fun c hc => .inl hc) (fun row hm c hc => .inl (mem_set_rows (by omega) hrb row hm c hc))
  exact ⟨b, o, ob, _, hb, hix, hst, r1, r2, rfl, rfl, fun c hc => hc, fun c ⟨row, hm, hc⟩ => mem_set_rows (by omega) hrb row hm c hc⟩
variable [O35]
theorem pout_sp {h : AHeap} {p : Nat} {s : S} {v : V} (hp : PL h p s v) (now : Int) (hul : s.units.length ≤ 100000) (hal : s.acks.length ≤ 100000) (hupl : s.up.length ≤ 8)
    (hud : ∀ u ∈ s.units, u.data.length ≤ 1000000) (haw : ∀ a ∈ s.acks, 0 ≤ a.1 ∧ a.1 < (s.up.length : Int)) (htn : 0 ≤ s.turn ∧ s.turn ≤ 900000) :
    Ca Try.prog 11 [.ptr p 0, i64 now] h fun r h' => outA 48 h h' (outR s now).2.1 (outR s now).2.2 r ∧ ∃ v', PL h' p (outR s now).1 v' ∧ Ev h h' p v v' := by
  refine ci Try.func11 rfl (by decide) ?_
  intro fr hn hg
  replace hn : fr.n = 187 := hn
  have h0 : fr.get 0 = some (.ptr p 0) := hg 0 (by simp)
  have h1 : fr.get 1 = some (i64 now) := hg 1 (by simp)
  clear hg
  show AW _ _ _ _ _
  have hcl := hp.cells
  simp [hn, h0, h1, bin2_eql_ptr pt27, kseq_normal]
  refine (ptime_sp hp now).mono ?_
  rintro r h1' ⟨rfl, rfl⟩
  simp [hn, kseq_normal]
  refine Br.mk (fun hb1 => ?_) (fun hb1 => ?_)
  case refine_2 =>
    simp [hn, kseq_normal]
    have : outR s now = (s, [], timeE s now) := by unfold outR; rw [hb1]; rfl
    rw [this]; exact ⟨outA.nil _ _ _ _, v, hp, Ev.refl _ p v⟩
  simp [hn, h0, kseq_normal]
  refine (pusb_sp hp hupl).mono ?_
  rintro ux h2 ⟨hgu, hp2, hfu⟩
  simp [hn]
  rw [kseq_normal]
  refine AW_gen (fun fr' h' => fr'.n = 187 ∧ fr'.get 0 = some (.ptr p 0) ∧ fr'.get 1 = some (i64 now) ∧ fr'.get 7 = some ux ∧ h' = h2) ⟨by simp [hn], by simp [h0], by simp [h1], by simp, rfl⟩ ?_
  rintro fr3 h3 ⟨hn3, h03, h13, h73, rfl⟩
  have hpl3 := hp.pres hp2
  have hcl3 := hpl3.cells
  have hun3 := hpl3.un.sl
  have hul3 := hpl3.us.length
  obtain ⟨rs, hrs⟩ : ∃ rs, rs = resR s now := ⟨_, rfl⟩
  have huxl : plen Try.prog 79 ux = some (i64 ((usb s.up).length : Int)) := by have := hgu.sl.len sl79; simpa [ints] using this
  have hunl : plen Try.prog 53 v.un = some (i64 (s.units.length : Int)) := by have := hun3.len sl53; rw [hul3]; exact this
  -- time to send again?
  rw [AW_seq]
  refine AW_cut (Q' := fun e fr' h' => e = .normal ∧ fr'.n = 187 ∧ fr'.get 0 = some (.ptr p 0) ∧ fr'.get 1 = some (i64 now) ∧ fr'.get 7 = some ux ∧ fr'.get 8 = some (.bool rs) ∧ h' = h3) ?_ ?_
  · refine AW_region_t _ _ _ _ _ (by kernel_rfl) ?_
    simp [hn3, h03, hcl3, hunl, h13]
    refine Br.mk (fun hb2 => ?_) (fun hb2 => ?_)
    · have hu0 : 0 < s.units.length := by rw [ilt_true] at hb2; omega
      obtain ⟨u0, us0, hu0'⟩ : ∃ u0 us0, s.units = u0 :: us0 := by
        cases hh : s.units with
        | nil => rw [hh] at hu0; simp at hu0
        | cons u us => exact ⟨u, us, rfl⟩
      obtain ⟨b, o, ty, cs, wr, _, hix, _, hgb, hle, hrow⟩ := hun3.raw sl53 sz78 0 (by omega)
      obtain ⟨r0, hr0, d0, rfl, _⟩ := hpl3.us.get 0 u0 (by rw [hu0']; rfl)
      rw [List.getElem?_eq_getElem (by omega)] at hr0
      rw [Option.some.inj hr0] at hrow
      have hat : atCells Try.prog 2 (h3.get b) (o + 5) = some (i64 u0.at_) := by rw [hgb, one_load ag2 hle hrow (by omega)]; rfl
      have hix : pindexAddr Try.prog 53 v.un (i64 0) = some (.ptr b o) := hix
      have er : rs = (!(ilt u0.at_ 0) && !(ilt (IntKind.i64.wrap (now - u0.at_)) s.timeout)) := by rw [hrs]; unfold resR; rw [hu0']
      simp [hn3, h03, hcl3, hunl, h13, hb2, hix, hat, h73]
      refine Br.mk (fun hb3 => ?_) (fun hb3 => ?_)
      · simp [hn3, h03, hcl3, h13, hb2, hb3, hix, hat, h73, er]
      · simp [hn3, h03, hcl3, h13, hb2, hb3, hix, hat, h73, er]
    · have hu0 : s.units = [] := by
        rw [ilt_false] at hb2; exact List.length_eq_zero_iff.1 (by omega)
      have er : rs = false := by rw [hrs]; unfold resR; rw [hu0]
      simp [hn3, h03, hcl3, h13, hb2, h73, er]
  rintro e fr4 h4 ⟨rfl, hn4, h04, h14, h74, h84, rfl⟩
  clear hn3 h03 h13 h73
  rw [kseq_normal]
  have hrs0 : resR s now = rs := hrs.symm
  rw [AW_seq]
  refine AW_cut (Q' := fun e fr' h' => (e = .normal ∧ fr'.n = 187 ∧ fr'.get 0 = some (.ptr p 0) ∧ fr'.get 1 = some (i64 now) ∧ fr'.get 7 = some ux ∧ fr'.get 8 = some (.bool rs) ∧ h' = h4 ∧ (rs && ilt 0 ((usb s.up).length : Int) && ieq s.repeats 6) = false) ∨
    (e = .ret ∧ (rs && ilt 0 ((usb s.up).length : Int) && ieq s.repeats 6) = true ∧ fr'.get 4 = some .nilsl ∧ fr'.get 5 = some (i64 4) ∧ h' = h4.set p (.cells 56 (pcells { s with broke := true } v) (some 0)))) ?_ ?_
  · simp [hn4, h04, h74, h84, huxl, hcl3, pst_broke, kseq_normal]
    cases rs with
    | false => simp [hn4, h04, h74, h84, huxl, hcl3, h14, kseq_normal]
    | true =>
      simp [hn4, h04, h74, h84, huxl, hcl3, kseq_normal]
      refine Br.mk (fun hb3 => ?_) (fun hb3 => ?_)
      · simp [hn4, h04, h74, h84, huxl, hcl3, hb3, kseq_normal]
        refine Br.mk (fun hb4 => ?_) (fun hb4 => ?_)
        · simp [hn4, h04, h74, h84, huxl, hcl3, hb3, hb4, pst_broke, kseq_normal]
        · simp [hn4, h04, h74, h84, huxl, hcl3, h14, hb3, hb4, kseq_normal]
      · simp [hn4, h04, h74, h84, huxl, hcl3, h14, hb3, kseq_normal]
  rintro e fr5 h5 (⟨rfl, hn5, h05, h15, h75, h85, rfl, hC⟩ | ⟨rfl, hC, k4, k5, rfl⟩)
  case inr =>
    have : outR s now = ({ s with broke := true }, [], 4) := by unfold outR; rw [hb1, hrs0, hC]; rfl
    simp [k4, k5, this]
    exact ⟨outA.nil _ _ _ 4, v, hpl3.put _, (hp2.ev p v).trans (Ev.set _ _ _ _)⟩
  clear hn4 h04 h14 h74 h84
  rw [kseq_normal]
  have hclk := hpl3.put { s with clock := now }
  obtain ⟨hplN, hevN⟩ := hclk.of_ak (x := .nilsl) (s' := { s with clock := now, acks := [] }) (h' := (h5.set p (.cells 56 (pcells { s with clock := now } v) (some 0))).set p (.cells 56 (pcells { s with clock := now } { v with ak := .nilsl }) (some 0))) (by simp) (fun c _ hne _ => by rw [AHeap.get_set, if_neg (Ne.symm hne)]) (by simp) (Gw.nil _ 82 6) (fun c hc => by simp [blk] at hc)
  have hevN2 := (hp2.ev p v).trans ((Ev.set h5 p v (.cells 56 (pcells { s with clock := now } v) (some 0))).trans hevN)
  have hpn : p < h1'.next := hp.lt
  have hgo : ∀ c, p ≠ c → ((h5.set p (.cells 56 (pcells { s with clock := now } v) (some 0))).set p (.cells 56 (pcells { s with clock := now } { v with ak := .nilsl }) (some 0))).get c = h5.get c := fun c hc => by rw [get_ne _ hc, get_ne _ hc]
  simp [hn5, h05, h15, hcl3, pst_clock]
  rw [kseq_normal]
  simp [hn5, h05, h15]
  rw [kseq_normal]
  simp [hn5, h05, pst_ak { s with clock := now } v (x := .nilsl) rfl rfl]
  rw [kseq_normal]
  have hugo : Gf ((h5.set p (.cells 56 (pcells { s with clock := now } v) (some 0))).set p (.cells 56 (pcells { s with clock := now } { v with ak := .nilsl }) (some 0))) 3 1 ux (ints (usb s.up)) := hgu.keep (by simp) fun c hc hl => hgo c fun e => by have := hfu c hc; omega
  have hako : Sl ((h5.set p (.cells 56 (pcells { s with clock := now } v) (some 0))).set p (.cells 56 (pcells { s with clock := now } { v with ak := .nilsl }) (some 0))) 6 v.ak (s.acks.map arow) := Sl.keep hpl3.ak.sl (by simp) fun c hc hl => hgo c fun e => hpl3.away.ak (e ▸ hc)
  refine AW_gen (fun fr' h' => fr'.n = 187 ∧ fr'.get 0 = some (.ptr p 0) ∧ fr'.get 1 = some (i64 now) ∧ fr'.get 7 = some ux ∧ fr'.get 8 = some (.bool rs) ∧ fr'.get 9 = some v.ak ∧ PL h' p { s with clock := now, acks := [] } { v with ak := .nilsl } ∧ Ev h1' h' p v { v with ak := .nilsl } ∧ Gf h' 3 1 ux (ints (usb s.up)) ∧ Sl h' 6 v.ak (s.acks.map arow))
    ⟨by simp [hn5], by simp [h05], by simp [h15], by simp [h75], by simp [h85], by simp, hplN, hevN2, hugo, hako⟩ ?_
  clear hclk hplN hevN hevN2 hgo hugo hako hn5 h05 h15 h75 h85
  rintro fr6 h6 ⟨hn6, h06, h16, h76, h86, h96, hpl6, hev6, hug6, hak6⟩
  obtain ⟨s2, hs2⟩ : ∃ s2 : S, s2 = { s with clock := now, acks := [] } := ⟨_, rfl⟩
  obtain ⟨v2, hv2⟩ : ∃ v2 : V, v2 = { v with ak := .nilsl } := ⟨_, rfl⟩
  have hlow : ∀ c, v2.W p c ∨ v2.R c ∨ blk v2.pt = some c → c < h1'.next := by
    rw [hv2]
    rintro c (hc | hc | hc)
    · refine V.W_lt hp.lt hp.up hp.un hp.ak c ?_
      rcases hc with hc | hc | hc | hc
      · exact .inl hc
      · exact .inr (.inl hc)
      · exact .inr (.inr (.inl hc))
      · simp [blk] at hc
    · exact hp.us.lt c hc
    · exact hp.pt.blk_lt hc
  rw [← hs2, ← hv2] at hpl6
  rw [← hv2] at hev6
  have hakl : ∀ c, blk v.ak = some c → c < h1'.next := fun c hc => hp.ak.blk_lt hc
  simp [hn6, h76, huxl, kseq_normal]
  refine Br.mk (fun hb3 => ?_) (fun hb3 => ?_)
  · have hu0 : (usb s.up).length = 0 := by rw [ieq_true] at hb3; omega
    have : outR s now = (s2, [], 0) := by unfold outR; rw [hb1, hrs0, hC, hu0, hs2]; rfl
    simp [hn6, kseq_normal, this]
    exact ⟨outA.nil _ _ _ 0, _, hpl6, hev6⟩
  have hu0 : (usb s.up).length ≠ 0 := by rw [ieq_false] at hb3; omega
  have hOut : outR s now = (finS { s2 with repeats := (if rs then IntKind.i64.wrap (s2.repeats + 1) else s2.repeats) } (usb s.up) rs now (s.acks.map (ackO s.up (usb s.up))) 8, (finF { s2 with repeats := (if rs then IntKind.i64.wrap (s2.repeats + 1) else s2.repeats) } (usb s.up) rs (s.acks.map (ackO s.up (usb s.up))) 8).2, 0) := by
    unfold outR; rw [hb1, hrs0, hC, if_neg hu0, hs2]; rfl
  have e1 : s2.up = s.up := by rw [hs2]
  have e2 : s2.units = s.units := by rw [hs2]
  have e3 : s2.turn = s.turn := by rw [hs2]
  rw [hOut]
  rw [← e2] at hul hud hunl hul3
  rw [← e3] at htn
  clear hOut hrs0 hrs e2 e3 hs2
  have hak6l : plen Try.prog 54 v.ak = some (i64 (s.acks.length : Int)) := by have := hak6.len sl54; simpa using this
  simp [hn6, h96, hak6l, kseq_normal]
  refine AW_cut_x 0 (fun fr' h' => ∃ x, fr'.get 10 = some x ∧ OI (fun h s v => PL h p s v) 48 h1' p v h' s2 v2 x (s.acks.map (ackO s.up (usb s.up))) ∧ Bes 1 h' x ux (ints (usb s.up))) ?_ ?_
  · have hoi0 : OI (fun h s v => PL h p s v) 48 h1' p v h6 s2 v2 .nilsl [] := ⟨hpl6, hev6, hlow, [], Outs.nil _ _ _, rfl⟩
    refine AW_loop_fr (fun m fr' h' => ∃ k x, m = s.acks.length - k ∧ k ≤ s.acks.length ∧ fr'.get 95 = some (i64 (k : Nat)) ∧ fr'.get 10 = some x ∧ OI (fun h s v => PL h p s v) 48 h1' p v h' s2 v2 x ((s.acks.take k).map (ackO s.up (usb s.up))) ∧ Bes 1 h' x ux (ints (usb s.up)) ∧ Sl h' 6 v.ak (s.acks.map arow)) s.acks.length
      ⟨0, .nilsl, by simp, by omega, by simp, by simp, by simpa using hoi0, ⟨hug6.sl, fun c _ e => by simp [blk] at e⟩, hak6⟩ ?_
    rintro J hJ m fr' h' ⟨k, x, rfl, hk, h95, h10, hoi, hbe, hak⟩ hfr
    have hn' : fr'.n = 187 := hfr.1.trans (by simp [hn6])
    have h0' : fr'.get 0 = some (.ptr p 0) := (hfr.2 0 (by kernel_rfl)).trans (by simp [h06])
    have h7' : fr'.get 7 = some ux := (hfr.2 7 (by kernel_rfl)).trans (by simp [h76])
    have h93 : fr'.get 93 = some v.ak := (hfr.2 93 (by kernel_rfl)).trans (by simp)
    have h94 : fr'.get 94 = some (i64 (s.acks.length : Int)) := (hfr.2 94 (by kernel_rfl)).trans (by simp)
    clear hfr
    simp [hn', h94, h95, kseq_normal]
    refine Br.mk (fun hb4 => ?_) (fun hb4 => ?_)
    · have hk1 : k < s.acks.length := by rw [ilt_true] at hb4; omega
      obtain ⟨b, o, _, hix, _, hag, _⟩ := Sl.at_blk hak sl54 sz82 k (by simpa using hk1)
      have hag := hag ag82
      rw [List.getElem_map] at hag
      have ham := haw s.acks[k] (List.getElem_mem _)
      have htk : s.acks.take (k + 1) = s.acks.take k ++ [s.acks[k]] := by rw [List.take_add_one, List.getElem?_eq_getElem hk1]; rfl
      generalize s.acks[k] = a at *
      obtain ⟨w, m, f⟩ := a
      obtain ⟨ham1, ham2⟩ := ham
      simp only at ham1 ham2
      obtain ⟨w, rfl⟩ := Int.eq_ofNat_of_zero_le ham1
      simp [hn', h93, h94, h95, hix, hag, stc_all sz82, arow]
      rw [kseq_normal]
      have hpq : Pres h' ((h'.new (.cells 82 [i64 0, i64 0, .bool false, i64 0, i64 0, .nilsl] (some 0))).set h'.next (.cells 82 [i64 (w : Int), i64 2, .bool false, i64 m, i64 f, .nilsl] (some 0))) := ((Pres.refl h').new _).set (Nat.le_refl _) _
      refine AW_gen (fun fr2 h2 => fr2.n = 187 ∧ fr2.get 0 = some (.ptr p 0) ∧ fr2.get 7 = some ux ∧ fr2.get 10 = some x ∧ fr2.get 95 = some (i64 (k : Int)) ∧ ∃ q, fr2.get 12 = some (.ptr q 0) ∧ h2.get q = .cells 82 [i64 (w : Int), i64 2, .bool false, i64 m, i64 f, .nilsl] (some 0) ∧ q < h2.next ∧ h'.next ≤ q ∧ Pres h' h2)
        ⟨by simp [hn'], by simp [h0'], by simp [h7'], by simp [h10], by simp [h95], h'.next, by simp, by simp, by simp, Nat.le_refl _, hpq⟩ ?_
      clear hpq
      rintro fr2 h2 ⟨hn2, h02, h72, h102, h952, q, h122, hq2, hql, hqn, hpq⟩
      clear hn' h0' h7' h93 h94 h10 h95
      have hoi2 := hoi.pres (PLK p) hpq
      have hbe2 := hbe.pres hpq
      have hak2 := hak.pres hpq
      have hcl2 := hoi2.pl.cells
      have hup2 := hoi2.pl.up
      have hwl : w < s2.up.length := by rw [e1]; omega
      obtain ⟨hixu, hatu⟩ := hup2.at hwl
      have hupw : s2.up[w] = s.up[w]'(by omega) := by simp [e1]
      have hqp : p ≠ q := by have := hoi.pl.lt; omega
      obtain ⟨u0, us0, hux0⟩ : ∃ u0 us0, usb s.up = u0 :: us0 := by
        cases hh : usb s.up with
        | nil => rw [hh] at hu0; simp at hu0
        | cons u us => exact ⟨u, us, rfl⟩
      obtain ⟨bu, ou, hbu, hixx, _, _, hatx⟩ := Sl.at_blk hbe2.sl sl79 sz3 0 (by rw [hux0]; simp [ints])
      have hatx : atCells Try.prog 3 (h2.get bu) ou = some (i64 (u0 : Int)) := by
        have := hatx 0 3 ag3 (by omega)
        simp [hux0, ints] at this
        exact this
      have hixx : pindexAddr Try.prog 79 ux (i64 0) = some (.ptr bu ou) := hixx
      rw [AW_seq]
      refine AW_cut (Q' := fun e fr3 h3 => e = .normal ∧ fr3.n = 187 ∧ fr3.get 10 = some x ∧ fr3.get 12 = some (.ptr q 0) ∧ fr3.get 95 = some (i64 (k : Int)) ∧ h3.get q = .cells 82 [i64 (ackW s.up (usb s.up) w), i64 2, .bool false, i64 m, i64 f, .nilsl] (some 0) ∧ q < h3.next ∧ Pres h' h3) ?_ ?_
      · rw [AW_seq]
        refine AW_region_t _ _ _ _ _ (by kernel_rfl) ?_
        simp [hn2, h02, h122, hcl2, hq2, hixu, hatu, hupw, kseq_normal]
        have hset : Pres h' (h2.set q (.cells 82 [i64 (u0 : Int), i64 2, .bool false, i64 m, i64 f, .nilsl] (some 0))) := hpq.set hqn _
        have hst : stc Try.prog 3 (.cells 82 [i64 (w : Int), i64 2, .bool false, i64 m, i64 f, .nilsl] (some 0)) 0 (i64 (u0 : Int)) = some (.cells 82 [i64 (u0 : Int), i64 2, .bool false, i64 m, i64 f, .nilsl] (some 0)) := stc_one sz3 (by simp) rfl rfl
        have hgw : s.up[w]? = some (s.up[w]'(by omega)) := List.getElem?_eq_getElem _
        refine Br.mk (fun hb5 => ?_) (fun hb5 => ?_)
        · have e : ackW s.up (usb s.up) w = (w : Int) := by unfold ackW; simp [hgw, hb5]
          simp [hn2, h102, h122, h952, hq2, e, hpq, hql, kseq_normal]
        · have e : ackW s.up (usb s.up) w = (u0 : Int) := by unfold ackW; simp [hgw, hb5, hux0]
          simp [hn2, h72, h102, h122, h952, hq2, e, hixx, hatx, hst, hset, hql, kseq_normal]
      rintro e fr3 h3 ⟨rfl, hn3, h103, h123, h953, hq3, hql3, hp3⟩
      rw [kseq_normal]
      simp [hn3, h123, hq3]
      refine (penc_sp h3 ⟨2, false, m, f, []⟩ .nilsl (Sl.nil h3 1) (by simp)).mono ?_
      rintro r h4' ⟨y, rfl, hy, hp4, hfy⟩
      have hp34 := hp3.trans hp4
      have hoi4 := hoi.pres (PLK p) hp34
      have hbe4 := hbe.pres hp34
      have hak4 := hak.pres hp34
      have hbx : ∀ c, blk x = some c → c < h'.next := fun c hc => by obtain ⟨t, ht, _⟩ := hoi.out; exact ht.gw.blk_lt hc
      have hbey : Bes 1 h4' x y (byt (encO ⟨2, false, m, f, []⟩)) := ⟨hy, fun c hc e => by have := hfy c hc; have := hbx c e; have := hp3.1; omega⟩
      obtain ⟨x', h5', hap, hoi5, hgr⟩ := hoi4.app (w := ackW s.up (usb s.up) w) (PLK p) hbey (fun c hc => by have := hfy c hc; have := hp3.1; have := hoi.ev.next; omega) (t := 42) sl42 sz48 by48 z48 rfl (by omega) (by simp; omega)
      obtain ⟨hy1, hy2, hy3⟩ := Sl.one hy
      simp [hn3, h103, h123, (hp4.2 q hql3).trans hq3, pb48_out _ hy1, pbs_one sl42 sz48 z48 rfl (by omega) (v := .agg [i64 (ackW s.up (usb s.up) w), y]) (by rfl) (by rw [allOne_row]; exact hy2), hap, h953, kseq_normal]
      rw [kloop_normal]
      refine ⟨s.acks.length - (k + 1), by omega, hJ _ _ _ ⟨k + 1, x', rfl, by omega, by simp [wrap_nat k (by omega)], by simp, ?_, hbe4.grown hgr, ?_⟩⟩
      · rw [htk, List.map_append]; exact hoi5
      · exact Sl.keep hak4 hgr.next fun c hc hl => hgr.keep c hl fun e => by have := hbx c e; obtain ⟨t, ht, _⟩ := hoi.out; have := ht.fr c e; have := hakl c hc; omega
    · have : k = s.acks.length := by rw [ilt_false] at hb4; omega
      subst this
      rw [List.take_length] at hoi
      simp [hn', h10, kseq_normal]
      exact ⟨hoi, hbe⟩
  rintro fr7 h7 ⟨x7, h107, hoi7, hbe7⟩ hfr
  have hn7 : fr7.n = 187 := hfr.1.trans (by simp [hn6])
  have h07 : fr7.get 0 = some (.ptr p 0) := (hfr.2 0 (by kernel_rfl)).trans (by simp [h06])
  have h17 : fr7.get 1 = some (i64 now) := (hfr.2 1 (by kernel_rfl)).trans (by simp [h16])
  have h77 : fr7.get 7 = some ux := (hfr.2 7 (by kernel_rfl)).trans (by simp [h76])
  have h87 : fr7.get 8 = some (.bool rs) := (hfr.2 8 (by kernel_rfl)).trans (by simp [h86])
  clear hfr hn6 h06 h16 h76 h86 h96
  rw [kblock_exit_eq, kseq_normal]
  have hpn0 : p < h1'.next := hp.lt
  obtain ⟨R, hR⟩ : ∃ R, R = (if rs then IntKind.i64.wrap (s2.repeats + 1) else s2.repeats) := ⟨_, rfl⟩
  rw [← hR]
  rw [AW_seq]
  refine AW_cut (Q' := fun e fr' h' => e = .normal ∧ fr'.n = 187 ∧ fr'.get 0 = some (.ptr p 0) ∧ fr'.get 1 = some (i64 now) ∧ fr'.get 7 = some ux ∧ fr'.get 8 = some (.bool rs) ∧ fr'.get 10 = some x7 ∧ OI (fun h s v => PL h p s v) 48 h1' p v h' { s2 with repeats := R } v2 x7 (s.acks.map (ackO s.up (usb s.up))) ∧ Bes 1 h' x7 ux (ints (usb s.up))) ?_ ?_
  · have hcl7 := hoi7.pl.cells
    simp [hn7, h87, kseq_normal]
    cases rs with
    | false => 
      simp [hn7, h07, h17, h77, h87, h107, kseq_normal]
      simp at hR
      rw [hR]; exact ⟨hoi7, hbe7⟩
    | true =>
      simp at hR
      simp [hn7, h07, h17, h77, h87, h107, hcl7, pst_repeats, kseq_normal]
      rw [← hR]
      have hpl8 := hoi7.pl.put { s2 with repeats := R }
      exact ⟨hoi7.step hpl8 (Ev.set _ _ _ _) hoi7.low fun c hc _ => get_ne _ fun e => by omega, Sl.keep hbe7.sl (by simp) fun c hc _ => get_ne _ fun e => by have := hfu c hc; omega, hbe7.ne⟩
  rintro e fr8 h8 ⟨rfl, hn8, h08, h18, h78, h88, h108, hoi8, hbe8⟩
  clear hn7 h07 h17 h77 h87 h107 hoi7 hbe7
  rw [kseq_normal]
  obtain ⟨s3, hs3⟩ : ∃ s3 : S, s3 = { s2 with repeats := R } := ⟨_, rfl⟩
  obtain ⟨o1, ho1⟩ : ∃ o1, o1 = s.acks.map (ackO s.up (usb s.up)) := ⟨_, rfl⟩
  have ho1l : o1.length ≤ 100000 := by rw [ho1]; simpa using hal
  rw [← ho1, ← hs3]
  have e3u : s2.units = s3.units := by rw [hs3]
  have e3t : s2.turn = s3.turn := by rw [hs3]
  rw [e3u] at hul hud hunl hul3
  rw [e3t] at htn
  rw [← hs3, ← ho1] at hoi8
  have e3up : s3.up = s.up := by rw [hs3]; exact e1
  clear hs3 ho1 e3u e3t
  have hcl8 := hoi8.pl.cells
  have hunl8 : plen Try.prog 53 v2.un = some (i64 (s3.units.length : Int)) := by have := hoi8.pl.un.sl.len sl53; rw [← hoi8.pl.us.length] at this; exact this
  have hmin : min2 (some [i64 8, i64 (s3.units.length : Int)]) = some (i64 ((min 8 s3.units.length : Nat) : Int)) := min2_nat .i64 8 _
  have hfin : finF s3 (usb s.up) rs o1 8 = finF s3 (usb s.up) rs o1 (min 8 s3.units.length) ∧ finS s3 (usb s.up) rs now o1 8 = finS s3 (usb s.up) rs now o1 (min 8 s3.units.length) := by
    by_cases h8 : s3.units.length ≤ 8
    · rw [Nat.min_eq_right h8]; unfold finS finF; rw [List.take_of_length_le h8, List.take_of_length_le (Nat.le_refl _), List.drop_of_length_le h8, List.drop_of_length_le (Nat.le_refl _)]; exact ⟨rfl, rfl⟩
    · rw [Nat.min_eq_left (by omega)]; exact ⟨rfl, rfl⟩
  rw [hfin.1, hfin.2]
  clear hfin
  have hNl : min 8 s3.units.length ≤ s3.units.length := Nat.min_le_right _ _
  have hN8 : min 8 s3.units.length ≤ 8 := Nat.min_le_left _ _
  simp [hn8, h08, hcl8, hunl8]
  rw [hmin]
  generalize min 8 s3.units.length = N at *
  simp [hn8]
  rw [kseq_normal]
  simp
  have hunx : ∀ {h : AHeap} {s' : S} {v' : V}, PL h p s' v' → s'.units.length = v'.rows.length := fun hp => hp.us.length
  have hux0 : ∀ c, blk ux = some c → h1'.next ≤ c := hfu
  have huxp : blk ux ≠ some p := fun e => by have := hux0 p e; omega
  have hupsl : (usb s.up).length ≤ 8 := Nat.le_trans (by have := usbT_len s.up s.up.length; exact this) hupl
  have fin0 : finF s3 (usb s.up) rs o1 0 = (s3.turn, o1) := rfl
  have fins0 : finS s3 (usb s.up) rs now o1 0 = s3 := by unfold finS finF; rfl
  have hbnd : ∀ {M : Nat}, M ≤ N → 0 ≤ (finF s3 (usb s.up) rs o1 M).1 ∧ (finF s3 (usb s.up) rs o1 M).1 ≤ 1000000 ∧ (finF s3 (usb s.up) rs o1 M).2.length ≤ 200000 := fun {M} hM => by
    obtain ⟨b1, b2, b3⟩ := finF_bound (s3 := s3) (ups := usb s.up) (rs := rs) (o1 := o1) htn (N := M) (by omega) (by omega)
    refine ⟨b1, by omega, ?_⟩
    have : M * (usb s.up).length ≤ 8 * 8 := Nat.mul_le_mul (by omega) hupsl
    omega
  refine AW_cut_x 2 (fun fr' h' => ∃ v' x, fr'.get 10 = some x ∧ OI (fun h s v => PL h p s v) 48 h1' p v h' (finS s3 (usb s.up) rs now o1 N) v' x (finF s3 (usb s.up) rs o1 N).2) ?_ ?_
  · refine AW_loop_fr (fun m fr' h' => ∃ k v' x, m = N - k ∧ k ≤ N ∧ fr'.get 140 = some (i64 (k : Nat)) ∧ fr'.get 10 = some x ∧ OI (fun h s v => PL h p s v) 48 h1' p v h' (finS s3 (usb s.up) rs now o1 k) v' x (finF s3 (usb s.up) rs o1 k).2 ∧ Bes 1 h' x ux (ints (usb s.up))) N
      ⟨0, v2, x7, by simp, by omega, by simp, by simp [h108], by rw [fins0, fin0]; exact hoi8, hbe8⟩ ?_
    rintro J hJ m fr' h' ⟨k, v', x, rfl, hk, h140, h10, hoi, hbe⟩ hfr
    have hn' : fr'.n = 187 := hfr.1.trans (by simp [hn8])
    have hf0 : fr'.get 0 = some (.ptr p 0) := (hfr.2 0 (by kernel_rfl)).trans (by simp [h08])
    have hf1 : fr'.get 1 = some (i64 now) := (hfr.2 1 (by kernel_rfl)).trans (by simp [h18])
    have hf7 : fr'.get 7 = some ux := (hfr.2 7 (by kernel_rfl)).trans (by simp [h78])
    have hf8 : fr'.get 8 = some (.bool rs) := (hfr.2 8 (by kernel_rfl)).trans (by simp [h88])
    have h139 : fr'.get 139 = some (i64 (N : Int)) := (hfr.2 139 (by kernel_rfl)).trans (by simp)
    clear hfr
    simp [hn', h139, h140, kseq_normal]
    refine Br.mk (fun hb4 => ?_) (fun hb4 => ?_)
    case refine_2 =>
      have : k = N := by rw [ilt_false] at hb4; omega
      subst this
      simp [hn', h10, kseq_normal]
      exact ⟨v', hoi⟩
    have hk1 : k < N := by rw [ilt_true] at hb4; omega
    have hkl : k < s3.units.length := by omega
    have hcl := hoi.pl.cells
    have hrl := hunx hoi.pl
    rw [finS_len (by omega)] at hrl
    obtain ⟨b, o, ty, cs, wr, hub, hix, hbl, hgb, hle, hrow⟩ := hoi.pl.un.sl.raw sl53 sz78 k (by omega)
    obtain ⟨r0, hr0, d0, rfl, hd0⟩ := hoi.pl.us.get k s3.units[k] (finS_get hkl)
    rw [List.getElem?_eq_getElem (by omega)] at hr0
    rw [Option.some.inj hr0] at hrow
    have hat : atCells Try.prog 2 (h'.get b) (o + 5) = some (i64 s3.units[k].at_) := by rw [hgb, one_load ag2 hle hrow (by omega)]; rfl
    have hdl := hud s3.units[k] (List.getElem_mem _)
    have hno := finS_no (s3 := s3) (ups := usb s.up) (rs := rs) (now := now) (o1 := o1) hkl
    have hyes := finS_yes (s3 := s3) (ups := usb s.up) (rs := rs) (now := now) (o1 := o1) hkl
    simp [hn', h140]
    rw [kseq_normal]
    simp [hn', hf0, hcl, hix]
    rw [kseq_normal]
    have hku : k < (finS s3 (usb s.up) rs now o1 k).units.length := by rw [finS_len (by omega)]; exact hkl
    have hug : (finS s3 (usb s.up) rs now o1 k).units[k] = s3.units[k] := by
      have := finS_get (ups := usb s.up) (rs := rs) (now := now) (o1 := o1) hkl
      rw [List.getElem?_eq_getElem hku] at this; exact Option.some.inj this
    generalize s3.units[k] = u at *
    cases hsd : sendU rs u with
    | false =>
      have hrs : rs = false ∧ ilt u.at_ 0 = false := by unfold sendU at hsd; simpa using hsd
      obtain ⟨hE1, hE2⟩ := hno hsd
      simp [hn', hf8, hrs.1, hat, hrs.2, h140, kseq_normal]
      rw [kloop_normal]
      refine ⟨N - (k + 1), by omega, hJ _ _ _ ⟨k + 1, v', x, rfl, hk1, by simp [wrap_nat k (by omega)], by simp [h10], ?_, hbe⟩⟩
      rw [hE1, hE2]; exact hoi
    | true =>
      rw [AW_seq]
      refine AW_cut (Q' := fun e fr2 h2 => e = .normal ∧ h2 = h' ∧ fr2.n = 187 ∧ fr2.get 0 = some (.ptr p 0) ∧ fr2.get 1 = some (i64 now) ∧ fr2.get 7 = some ux ∧ fr2.get 10 = some x ∧ fr2.get 16 = some (.ptr b o) ∧ fr2.get 139 = some (i64 (N : Int)) ∧ fr2.get 140 = some (i64 (k : Int))) ?_ ?_
      · cases hrs : rs with
        | true => simp [hn', hf0, hf1, hf7, hf8, hrs, h10, h139, h140, kseq_normal]
        | false =>
          have hat0 : ilt u.at_ 0 = true := by unfold sendU at hsd; rw [hrs] at hsd; simpa using hsd
          simp [hn', hf0, hf1, hf7, hf8, hrs, h10, h139, h140, hat, hat0, kseq_normal]
      rintro e fr2 h2 ⟨rfl, rfl, hn2, h02, h12, h72, h102, h162, h1392, h1402⟩
      obtain ⟨hE1, hE2⟩ := hyes hsd
      clear hno hyes hn' hf0 hf1 hf7 hf8 h10 h139 h140
      rw [kseq_normal]
      obtain ⟨b2, o2, ob, vA, hub2, hix2, hst, hplA, hevA, hA1, hA2, hA3, hA4⟩ := hoi.pl.mark hku now
      rw [hug] at hplA
      rw [hix] at hix2
      obtain ⟨rfl, rfl⟩ : b = b2 ∧ o = o2 := by simpa using hix2
      have hbn : b < h1'.next := hoi.low b (.inl (.inr (.inr (.inl hub))))
      have hoiA := hoi.step hplA hevA (fun c hc => hoi.low c (by rw [hA2] at hc; exact hc.imp (hA3 c) (Or.imp_left (hA4 c)))) (fun c hc _ => get_ne _ fun e => by omega)
      have hbeA : Bes 1 (h2.set b ob) x ux (ints (usb s.up)) := ⟨Sl.keep hbe.sl (by simp) fun c hc _ => get_ne _ fun e => by have := hux0 c hc; omega, hbe.ne⟩
      simp [hn2, h12, h162, hst]
      rw [kseq_normal]
      obtain ⟨hb1', hb2', hb3'⟩ := hbnd (M := k) (by omega)
      obtain ⟨sA, hsA⟩ : ∃ sA : S, sA = { finS s3 (usb s.up) rs now o1 k with units := (finS s3 (usb s.up) rs now o1 k).units.set k { u with at_ := now } } := ⟨_, rfl⟩
      rw [← hsA] at hplA hoiA
      have hsq : sA.quality = s3.quality := by rw [hsA]; rfl
      have hst' : sA.turn = (finF s3 (usb s.up) rs o1 k).1 := by rw [hsA]; rfl
      have hEA : finS s3 (usb s.up) rs now o1 (k + 1) = { sA with turn := turnQ sA.quality sA.turn } := by rw [hE1, hsq, hst', hsA]; rfl
      have hsu : sA.units[k]? = some { u with at_ := now } := by rw [hsA]; simp [hku]
      have htb : 0 ≤ sA.turn ∧ sA.turn ≤ 1000000 := by rw [hst']; exact ⟨hb1', hb2'⟩
      rw [← hst', ← hsq] at hE2
      clear hsq hst' hE1
      simp [hn2, h02, h72]
      refine (over_sp hplA hbeA.sl (by omega) hupsl htb huxp).mono ?_
      rintro y hB ⟨hyB, hplB, hupB, hnB, hyb⟩
      have hWl : (wiresQ sA.quality sA.turn (usb s.up)).length ≤ 8 := Nat.le_trans (wiresQ_len _ _ _) hupsl
      rw [← hEA] at hplB
      have hlowA := hoiA.low
      have hoiB := hoiA.step hplB (hupB.ev vA) hlowA (fun c hc hl => hupB.2 c hl (by simp; omega))
      have hbeB : Bes 1 hB x ux (ints (usb s.up)) := ⟨Sl.keep hbeA.sl hupB.1 fun c hc hl => hupB.2 c hl (by simp; have := hux0 c hc; omega), hbeA.ne⟩
      have hbyB : Bes 1 hB x y (ints (wiresQ sA.quality sA.turn (usb s.up))) := ⟨hyB, fun c hc => hbeA.ne c (by rw [← hyb]; exact hc)⟩
      generalize wiresQ sA.quality sA.turn (usb s.up) = W at *
      have hyl : plen Try.prog 79 y = some (i64 (W.length : Int)) := by have := hyB.len sl79; simpa [ints] using this
      have hsu' : (finS s3 (usb s.up) rs now o1 (k + 1)).units[k]? = some { u with at_ := now } := by rw [hEA]; exact hsu
      generalize hsB : finS s3 (usb s.up) rs now o1 (k + 1) = sB at *
      generalize (finF s3 (usb s.up) rs o1 k).2 = L0 at *
      generalize hL1 : (finF s3 (usb s.up) rs o1 (k + 1)).2 = L1 at *
      have hunA : vA.un = v'.un := hA1
      simp [hn2, hyl]
      rw [kseq_normal]
      rw [AW_block]
      refine AW_cut_x 4 (fun fr3 h3 => ∃ xj, fr3.get 10 = some xj ∧ OI (fun h s v => PL h p s v) 48 h1' p v h3 sB vA xj L1 ∧ Bes 1 h3 xj ux (ints (usb s.up))) ?_ ?_
      · refine AW_loop_fr (fun m fr3 h3 => ∃ j xj, m = W.length - j ∧ j ≤ W.length ∧ fr3.get 166 = some (i64 (j : Nat)) ∧ fr3.get 10 = some xj ∧ OI (fun h s v => PL h p s v) 48 h1' p v h3 sB vA xj (L0 ++ (W.take j).map fun (w : Nat) => ((w : Int), encO (frmU u))) ∧ Bes 1 h3 xj ux (ints (usb s.up)) ∧ Bes 1 h3 xj y (ints W)) W.length
          ⟨0, x, by simp, by omega, by simp, by simp [h102], by simpa using hoiB, hbeB, hbyB⟩ ?_
        rintro J2 hJ2 m fr3 h3 ⟨j, xj, rfl, hj, h166, h103, hoi3, hbe3, hby3⟩ hfr3
        have hn3 : fr3.n = 187 := hfr3.1.trans (by simp [hn2])
        have h163 : fr3.get 16 = some (.ptr b o) := (hfr3.2 16 (by kernel_rfl)).trans (by simp [h162])
        have h164 : fr3.get 164 = some y := (hfr3.2 164 (by kernel_rfl)).trans (by simp)
        have h165 : fr3.get 165 = some (i64 (W.length : Int)) := (hfr3.2 165 (by kernel_rfl)).trans (by simp)
        clear hfr3
        simp [hn3, h165, h166, kseq_normal]
        refine Br.mk (fun hb5 => ?_) (fun hb5 => ?_)
        case refine_2 =>
          have : j = W.length := by rw [ilt_false] at hb5; omega
          subst this
          simp [hn3, h103, kseq_normal]
          rw [List.take_length, ← hE2] at hoi3
          exact ⟨hoi3, hbe3⟩
        have hj1 : j < W.length := by rw [ilt_true] at hb5; omega
        obtain ⟨by_, oy, _, hixy, _, _, haty⟩ := Sl.at_blk hby3.sl sl79 sz3 j (by simpa [ints] using hj1)
        have haty : atCells Try.prog 3 (h3.get by_) oy = some (i64 (W[j] : Int)) := by
          have := haty 0 3 ag3 (by omega)
          simp [ints, hj1] at this
          exact this
        have hku3 : k < sB.units.length := (List.getElem?_eq_some_iff.1 hsu').1
        have hrl3 := hunx hoi3.pl
        obtain ⟨b3, o3, ty3, cs3, wr3, _, hix3, _, hgb3, hle3, hrow3⟩ := hoi3.pl.un.sl.raw sl53 sz78 k (by omega)
        obtain ⟨r3, hr3, d3, rfl, hd3⟩ := hoi3.pl.us.get k _ hsu'
        rw [List.getElem?_eq_getElem (by omega)] at hr3
        rw [Option.some.inj hr3] at hrow3
        rw [hunA, hix] at hix3
        obtain ⟨rfl, rfl⟩ : b = b3 ∧ o = o3 := by simpa using hix3
        have hld : atCells Try.prog 52 (h3.get b) o = some (.agg ((frmU u).cells d3)) := by
          have := sub_load (f := 0) ag52 sz52 hle3 hrow3 (by omega) (ty := ty3) (wr := wr3)
          rw [hgb3]; exact this
        simp [hn3, h163, h164, h166, hixy, haty, hld, kseq_normal]
        refine (penc_sp h3 (frmU u) d3 hd3 hdl).mono ?_
        rintro r h4 ⟨z, rfl, hz, hp4, hfz⟩
        have hbx : ∀ c, blk xj = some c → c < h3.next := fun c hc => by obtain ⟨t, ht, _⟩ := hoi3.out; exact ht.gw.blk_lt hc
        have hbz : Bes 1 h4 xj z (byt (encO (frmU u))) := ⟨hz, fun c hc e => by have := hfz c hc; have := hbx c e; omega⟩
        obtain ⟨x', h5', hap, hoi5, hgr⟩ := (hoi3.pres (PLK p) hp4).app (w := ((W[j] : Nat) : Int)) (PLK p) hbz (fun c hc => by have := hfz c hc; have := hoi3.ev.next; omega) (t := 42) sl42 sz48 by48 z48 rfl (by omega) (by simp; omega)
        obtain ⟨hz1, hz2, hz3⟩ := Sl.one hz
        simp [hn3, h103, pb48_out _ hz1, pbs_one sl42 sz48 z48 rfl (by omega) (v := .agg [i64 ((W[j] : Nat) : Int), z]) (by rfl) (by rw [allOne_row]; exact hz2), hap, h166, kseq_normal]
        rw [kloop_normal]
        refine ⟨W.length - (j + 1), by omega, hJ2 _ _ _ ⟨j + 1, x', rfl, by omega, by simp [wrap_nat j (by omega)], by simp, ?_, (hbe3.pres hp4).grown hgr, (hby3.pres hp4).grown hgr⟩⟩
        rw [List.append_assoc] at hoi5
        rw [List.take_add_one, List.getElem?_eq_getElem hj1]
        show OI _ _ _ _ _ _ _ _ _ (L0 ++ List.map _ (_ ++ [_]))
        rw [List.map_append]; exact hoi5
      rintro fr3 h3 ⟨xj, h103, hoi3, hbe3⟩ hfr3
      have hn3 : fr3.n = 187 := hfr3.1.trans (by simp [hn2])
      have h1403 : fr3.get 140 = some (i64 (k : Int)) := (hfr3.2 140 (by kernel_rfl)).trans (by simp [h1402])
      clear hfr3
      rw [kblock_exit_eq]
      simp [hn3, h1403, kseq_normal]
      rw [kloop_normal]
      refine ⟨N - (k + 1), by omega, hJ _ _ _ ⟨k + 1, vA, xj, rfl, hk1, by simp [wrap_nat k (by omega)], by simp [h103], ?_, hbe3⟩⟩
      rw [hsB, hL1]; exact hoi3
  rintro fr9 h9 ⟨v', x9, h109, hoi9⟩ hfr
  have hn9 : fr9.n = 187 := hfr.1.trans (by simp [hn8])
  clear hfr
  rw [kblock_exit_eq]
  simp [hn9, h109, kseq_normal]
  obtain ⟨t, ht, hm⟩ := hoi9.out
  exact ⟨⟨x9, t, rfl, ht, hm⟩, v', hoi9.pl, hoi9.ev⟩
end Go.Eng.L35
