/- Law 35: Send of the reference. -/
import Derived.Test.YtcjgagkkanokjabL35W
namespace Go.Eng.L35
open Go.Proofs Go.Eng
theorem URs.snoc {h : AHeap} {u : U} {row : List AV} (hu : UR h u row) : ∀ {us rows}, URs h us rows → URs h (us ++ [u]) (rows ++ [row])
  | _, _, .nil => .cons hu .nil
  | _, _, .cons hv r => .cons hv (URs.snoc hu r)
theorem urow_cells (u : U) (d : AV) : (AV.agg (urow u d)).cells = urow u d := rfl
theorem PL.push {h0 h : AHeap} {p : Nat} {s : S} {v : V} (hp : PL h0 p s v) (hpr : Pres h0 h) {u : U} {d : AV} (hd : Bs h d u.data) (hdf : Fresh h0 d) (hl : s.units.length ≤ 100000) :
    ∃ x' h1, aappend Try.prog (h.new (.cells 78 (urow u d) (some 0))) [53, 53] [v.un, .sl h.next 0 0 1 (.at_ 1)] = some (x', h1) ∧ h1.get p = .cells 56 (pcells s v) (some 0) ∧ x'.cells = [x'] ∧ allOne x' = true ∧
      ∃ v', PL (h1.set p (.cells 56 (pcells s { v with un := x' }) (some 0))) p { s with units := s.units ++ [u] } v' ∧ Ev h0 (h1.set p (.cells 56 (pcells s { v with un := x' }) (some 0))) p v v' ∧ v'.pt = v.pt := by
  have hun := hp.un.pres hpr
  obtain ⟨x', h1, ha, hg, hgr⟩ := app1 (h := h) (t := 53) (v := .agg (urow u d)) hun sl53 sz78 by78 z78 rfl (by omega) rfl (by omega) (by rw [← hp.us.length]; omega)
  rw [urow_cells] at ha hg
  have hap := hp.away.un
  have hc1 : h1.get p = .cells 56 (pcells s v) (some 0) := (hgr.keep p (Nat.lt_of_lt_of_le hp.lt hpr.1) hap).trans ((hpr.2 p hp.lt).trans hp.cells)
  obtain ⟨hx1, hx2, hx3⟩ := Sl.one hg.sl
  have hxp : ∀ c, blk x' = some c → p ≠ c := fun c hc e => by
    rcases hgr.new c hc with e1 | e1
    · exact hap (e ▸ e1)
    · have := hp.lt; have := hpr.1; omega
  have hdp : ∀ c, blk d = some c → p ≠ c := fun c hc e => by have := hdf c hc; have := hp.lt; omega
  have hdx : ∀ c, blk d = some c → blk v.un ≠ some c := fun c hc e => by have := hdf c hc; have := hp.un.blk_lt e; omega
  refine ⟨x', h1, ha, hc1, hx1, hx3, ?_⟩
  have hkk : ∀ c, c < h.next → blk v.un ≠ some c → p ≠ c → (h1.set p (.cells 56 (pcells s { v with un := x' }) (some 0))).get c = h.get c := fun c hc hu hpc => by rw [get_ne _ hpc]; exact hgr.keep c hc hu
  have hU : URs (h1.set p (.cells 56 (pcells s { v with un := x' }) (some 0))) (s.units ++ [u]) (v.rows ++ [urow u d]) := by
    have h1' : URs (h1.set p (.cells 56 (pcells s { v with un := x' }) (some 0))) s.units v.rows := hp.us.keep (by simp; exact Nat.le_trans hpr.1 hgr.next) fun c hc hlt => by
      have hs := (hp.sep c hc).1
      rw [hkk c (Nat.lt_of_lt_of_le hlt hpr.1) (fun e => hs (.inr (.inr (.inl e)))) fun e => hs (.inl e.symm)]
      exact hpr.2 c hlt
    have h2' : UR (h1.set p (.cells 56 (pcells s { v with un := x' }) (some 0))) u (urow u d) := ⟨d, rfl, Sl.keep hd (by simp; exact hgr.next) fun c hc hlt => hkk c hlt (hdx c hc) (hdp c hc)⟩
    exact URs.snoc h2' h1'
  obtain ⟨r1, r2⟩ := hp.of_un (x := x') (rows' := v.rows ++ [urow u d]) (s' := { s with units := s.units ++ [u] }) (h' := h1.set p (.cells 56 (pcells s { v with un := x' }) (some 0))) (by simp; exact Nat.le_trans hpr.1 hgr.next)
    (fun c hc hne hu => (hkk c (Nat.lt_of_lt_of_le hc hpr.1) hu (Ne.symm hne)).trans (hpr.2 c hc)) (by simp) (hg.keep (by simp) fun c hc _ => get_ne _ (hxp c hc)) hU
    (fun c hc => by
      rcases hgr.new c hc with e1 | e1
      · exact .inl e1
      · exact .inr (Nat.le_trans hpr.1 e1))
    (fun row hm c hc => by
      rcases List.mem_append.1 hm with hm | hm
      · exact .inl ⟨row, hm, hc⟩
      · simp at hm; subst hm
        have hc : blk d = some c := hc
        refine .inr ⟨hdf c hc, fun e => ?_⟩
        rcases hgr.new c e with e1 | e1
        · exact hdx c hc e1
        · have := hd.blk_lt hc; omega)
  exact ⟨_, r1, r2, rfl⟩
theorem RL.push {h0 h : AHeap} {p : Nat} {s : S} {v : V} (hp : RL h0 p s v) (hpr : Pres h0 h) {u : U} {d : AV} (hd : Bs h d u.data) (hdf : Fresh h0 d) (hl : s.units.length ≤ 100000) :
    ∃ x' h1, aappend Try.prog (h.new (.cells 94 (urow u d) (some 0))) [57, 57] [v.un, .sl h.next 0 0 1 (.at_ 1)] = some (x', h1) ∧ h1.get p = .cells 60 (rcells s v) (some 0) ∧ x'.cells = [x'] ∧ allOne x' = true ∧
      ∃ v', RL (h1.set p (.cells 60 (rcells s { v with un := x' }) (some 0))) p { s with units := s.units ++ [u] } v' ∧ Ev h0 (h1.set p (.cells 60 (rcells s { v with un := x' }) (some 0))) p v v' ∧ v'.pt = v.pt := by
  have hun := hp.un.pres hpr
  obtain ⟨x', h1, ha, hg, hgr⟩ := app1 (h := h) (t := 57) (v := .agg (urow u d)) hun sl57 sz94 by94 z94 rfl (by omega) rfl (by omega) (by rw [← hp.us.length]; omega)
  rw [urow_cells] at ha hg
  have hap := hp.away.un
  have hc1 : h1.get p = .cells 60 (rcells s v) (some 0) := (hgr.keep p (Nat.lt_of_lt_of_le hp.lt hpr.1) hap).trans ((hpr.2 p hp.lt).trans hp.cells)
  obtain ⟨hx1, hx2, hx3⟩ := Sl.one hg.sl
  have hxp : ∀ c, blk x' = some c → p ≠ c := fun c hc e => by
    rcases hgr.new c hc with e1 | e1
    · exact hap (e ▸ e1)
    · have := hp.lt; have := hpr.1; omega
  have hdp : ∀ c, blk d = some c → p ≠ c := fun c hc e => by have := hdf c hc; have := hp.lt; omega
  have hdx : ∀ c, blk d = some c → blk v.un ≠ some c := fun c hc e => by have := hdf c hc; have := hp.un.blk_lt e; omega
  refine ⟨x', h1, ha, hc1, hx1, hx3, ?_⟩
  have hkk : ∀ c, c < h.next → blk v.un ≠ some c → p ≠ c → (h1.set p (.cells 60 (rcells s { v with un := x' }) (some 0))).get c = h.get c := fun c hc hu hpc => by rw [get_ne _ hpc]; exact hgr.keep c hc hu
  have hU : URs (h1.set p (.cells 60 (rcells s { v with un := x' }) (some 0))) (s.units ++ [u]) (v.rows ++ [urow u d]) := by
    have h1' : URs (h1.set p (.cells 60 (rcells s { v with un := x' }) (some 0))) s.units v.rows := hp.us.keep (by simp; exact Nat.le_trans hpr.1 hgr.next) fun c hc hlt => by
      have hs := hp.sep c (.inl hc)
      rw [hkk c (Nat.lt_of_lt_of_le hlt hpr.1) (fun e => hs (.inr (.inr (.inl e)))) fun e => hs (.inl e.symm)]
      exact hpr.2 c hlt
    have h2' : UR (h1.set p (.cells 60 (rcells s { v with un := x' }) (some 0))) u (urow u d) := ⟨d, rfl, Sl.keep hd (by simp; exact hgr.next) fun c hc hlt => hkk c hlt (hdx c hc) (hdp c hc)⟩
    exact URs.snoc h2' h1'
  obtain ⟨r1, r2⟩ := hp.of_un (x := x') (rows' := v.rows ++ [urow u d]) (s' := { s with units := s.units ++ [u] }) (h' := h1.set p (.cells 60 (rcells s { v with un := x' }) (some 0))) (by simp; exact Nat.le_trans hpr.1 hgr.next)
    (fun c hc hne hu => (hkk c (Nat.lt_of_lt_of_le hc hpr.1) hu (Ne.symm hne)).trans (hpr.2 c hc)) (by simp) (hg.keep (by simp) fun c hc _ => get_ne _ (hxp c hc)) hU
    (fun c hc => by
      rcases hgr.new c hc with e1 | e1
      · exact .inl e1
      · exact .inr (Nat.le_trans hpr.1 e1))
    (fun row hm c hc => by
      rcases List.mem_append.1 hm with hm | hm
      · exact .inl ⟨row, hm, hc⟩
      · simp at hm; subst hm
        have hc : blk d = some c := hc
        refine .inr ⟨hdf c hc, fun e => ?_⟩
        rcases hgr.new c e with e1 | e1
        · exact hdx c hc e1
        · have := hd.blk_lt hc; omega)
  exact ⟨_, r1, r2, rfl⟩
/-- The pieces of a message: n of them. -/
def piece (bs : List UInt8) (sz : Nat) (msg : Int) (i : Nat) : U := ⟨min ((i + 1) * sz) bs.length == bs.length, msg, i, -1, (bs.drop (i * sz)).take sz⟩
def pieceN (len sz : Nat) : Nat := max 1 ((len + sz - 1) / sz)
theorem pieceN_lt {len sz i : Nat} (hs : 0 < sz) : i < pieceN len sz ↔ i = 0 ∨ i * sz < len := by
  unfold pieceN
  have h1 : i < (len + sz - 1) / sz ↔ i * sz < len := by
    rw [← Nat.succ_le_iff, Nat.le_div_iff_mul_le hs, Nat.succ_mul]; omega
  generalize (len + sz - 1) / sz = q at *
  omega
end Go.Eng.L35
/- Law 35: Send of the reference. -/
namespace Go.Eng.L35
open Go.Proofs Go.Eng
def sendE (s : S) (bs : List UInt8) (now : Int) : Int :=
  if ilt 4096 (bs.length : Int) then 20 else if !(ieq (timeE s now) 0) then timeE s now else if !(ilt (IntKind.i64.wrap (s.sent - s.done)) 64) then 2 else if !(ilt s.sent 1099511627776) then 18 else 0
/-- What Send does: sz bytes go in one frame. -/
def sendR (s : S) (sz : Nat) (bs : List UInt8) (now : Int) : S × Int × Int :=
  if ieq (sendE s bs now) 0 then ({ s with clock := now, sent := IntKind.i64.wrap (s.sent + 1), units := s.units ++ (List.range (pieceN bs.length sz)).map fun i => piece bs sz (IntKind.i64.wrap (s.sent + 1)) i }, IntKind.i64.wrap (s.sent + 1), 0)
  else (s, 0, sendE s bs now)
theorem pb92_all (l : Bool) (m k : Int) {d : AV} (hd : d.cells = [d]) : pbuild Try.prog 92 [(0, i64 1), (1, .bool l), (2, i64 m), (3, i64 k), (4, d)] = some (.agg [i64 1, .bool l, i64 m, i64 k, d]) := by
  rw [pb92]; simp [bstep, splice, hd]
theorem pb94_all (l : Bool) (m k : Int) (d : AV) : pbuild Try.prog 94 [(0, .agg [i64 1, .bool l, i64 m, i64 k, d]), (1, i64 (-1))] = some (.agg [i64 1, .bool l, i64 m, i64 k, d, i64 (-1)]) := by
  rw [pb94]; rfl
theorem allOne_urow (u : U) (d : AV) : allOne (.agg (urow u d)) = AV.one d := by simp [allOne, AV.cells, AV.one]
variable [O35]
theorem rsend_sp {h : AHeap} {p : Nat} {s : S} {v : V} {x : AV} {bs : List UInt8} {sz : Nat} (hp : RL h p s v) (now : Int) (hx : Bs h x bs) (hxw : ∀ c, blk x = some c → ¬ v.W p c ∧ blk v.pt ≠ some c) (hsz : s.size = 24 + (sz : Int)) (hsz0 : 0 < sz) (hsz1 : sz ≤ 1000000) (hul : s.units.length ≤ 50000) :
    Ca Try.prog 17 [.ptr p 0, x, i64 now] h fun r h' => r = .tuple [i64 (sendR s sz bs now).2.1, i64 (sendR s sz bs now).2.2] ∧ ∃ v', RL h' p (sendR s sz bs now).1 v' ∧ Ev h h' p v v' := by
  refine ci Try.func17 rfl (by decide) ?_
  intro fr hn hg
  replace hn : fr.n = 103 := hn
  have h0 : fr.get 0 = some (.ptr p 0) := hg 0 (by simp)
  have h1 : fr.get 1 = some x := hg 1 (by simp)
  have h2 : fr.get 2 = some (i64 now) := hg 2 (by simp)
  clear hg
  show AW _ _ _ _ _
  have hcl := hp.cells
  have hxl : plen Try.prog 34 x = some (i64 (bs.length : Int)) := hx.len
  have bad : ∀ e, sendE s bs now = e → ieq e 0 = false → AV.tuple [i64 0, i64 e] = AV.tuple [i64 (sendR s sz bs now).2.1, i64 (sendR s sz bs now).2.2] ∧ ∃ v', RL h p (sendR s sz bs now).1 v' ∧ Ev h h p v v' := fun e he h0 => by
    have : sendR s sz bs now = (s, 0, e) := by unfold sendR; rw [he, h0]; rfl
    rw [this]; exact ⟨rfl, v, hp, Ev.refl h p v⟩
  simp [hn, h1, hxl, kseq_normal]
  refine Br.mk (fun hb1 => ?_) (fun hb1 => ?_)
  · simp [hn, kseq_normal]
    have := bad 20 (by unfold sendE; rw [hb1]; rfl) rfl
    simpa using this
  simp [hn, h0, h2, kseq_normal]
  refine (rtime_sp hp now).mono ?_
  rintro r h1' ⟨rfl, rfl⟩
  simp [hn, kseq_normal]
  refine Br.mk (fun hb2 => ?_) (fun hb2 => ?_)
  case refine_2 =>
    simp [hn, kseq_normal]
    have := bad (timeE s now) (by unfold sendE; rw [hb1, hb2]; rfl) hb2
    simpa using this
  refine AW_region_t _ _ _ _ _ (by kernel_rfl) ?_
  simp [hn, h0, hcl, kseq_normal]
  refine Br.mk (fun hb3 => ?_) (fun hb3 => ?_)
  case refine_2 =>
    simp [hn, kseq_normal]
    have := bad 2 (by unfold sendE; rw [hb1, hb2, hb3]; rfl) rfl
    simpa using this
  simp [hn, h0, hcl, kseq_normal]
  refine Br.mk (fun hb4 => ?_) (fun hb4 => ?_)
  case refine_2 =>
    simp [hn, kseq_normal]
    have := bad 18 (by unfold sendE; rw [hb1, hb2, hb3, hb4]; rfl) rfl
    simpa using this
  simp [hn, h0, h2, hcl, rst_clock]
  rw [kseq_normal]
  obtain ⟨M, hM⟩ : ∃ M, M = IntKind.i64.wrap (s.sent + 1) := ⟨_, rfl⟩
  have hS : sendR s sz bs now = ({ s with clock := now, sent := M, units := s.units ++ (List.range (pieceN bs.length sz)).map fun i => piece bs sz M i }, M, 0) := by
    have : sendE s bs now = 0 := by unfold sendE; rw [hb1, hb2, hb3, hb4]; rfl
    unfold sendR; rw [this, hM]; rfl
  rw [hS]
  clear bad hS
  have hlen : bs.length ≤ 4096 := by rw [ilt_false] at hb1; omega
  have hpl2 := (hp.put { s with clock := now }).put { s with clock := now, sent := M }
  have hev2 := (Ev.set h1' p v (.cells 60 (rcells { s with clock := now } v) (some 0))).trans (Ev.set _ p v (.cells 60 (rcells { s with clock := now, sent := M } v) (some 0)))
  simp [hn, h0, rst_sent]
  rw [kseq_normal, ← hM]
  have hsz' : IntKind.i64.wrap (s.size - 24) = (sz : Int) := by rw [hsz, show (24 + (sz : Int)) - 24 = (sz : Int) by omega]; exact wrap_in (by omega)
  refine AW_gen (fun fr' h' => fr'.n = 103 ∧ fr'.get 0 = some (.ptr p 0) ∧ fr'.get 1 = some x ∧ RL h' p { s with clock := now, sent := M } v ∧ Ev h1' h' p v v) ⟨by simp [hn], by simp [h0], by simp [h1], hpl2, hev2⟩ ?_
  clear hpl2 hev2 hn h0 h1 h2
  rintro fr2 h2' ⟨hn2, h02, h12, hpl2, hev2⟩
  obtain ⟨s2, hs2⟩ : ∃ s2 : S, s2 = { s with clock := now, sent := M } := ⟨_, rfl⟩
  have eS : ({ s with clock := now, sent := M, units := s.units ++ (List.range (pieceN bs.length sz)).map fun i => piece bs sz M i } : S) = { s2 with units := s2.units ++ (List.range (pieceN bs.length sz)).map fun i => piece bs sz M i } := by rw [hs2]
  have e1 : s2.size = s.size := by rw [hs2]
  have e2 : s2.sent = M := by rw [hs2]
  have e3 : s2.units = s.units := by rw [hs2]
  rw [← hs2] at hpl2
  rw [eS]
  rw [← e1] at hsz'
  rw [← e3] at hul
  clear hs2 eS e1 e3
  subst e2
  have hcl2 := hpl2.cells
  simp [hn2, h02, hcl2, hsz', kseq_normal]
  have hN : pieceN bs.length sz ≤ 4097 := by
    unfold pieceN
    have := Nat.div_le_self (bs.length + sz - 1) sz
    have h3 : (bs.length + sz - 1) / sz ≤ bs.length := by
      rw [Nat.div_le_iff_le_mul_add_pred hsz0]
      have : bs.length ≤ sz * bs.length := Nat.le_mul_of_pos_left _ hsz0
      omega
    omega
  have hlt := @pieceN_lt bs.length sz
  obtain ⟨n, hn0⟩ : ∃ n, n = pieceN bs.length sz := ⟨_, rfl⟩
  rw [← hn0] at hN hlt ⊢
  refine AW_cut_x 0 (fun fr' h' => ∃ v', RL h' p { s2 with units := s2.units ++ (List.range n).map fun i => piece bs sz s2.sent i } v' ∧ Ev h1' h' p v v') ?_ ?_
  · refine AW_loop_fr (fun m fr' h' => ∃ k v', m = n - k ∧ k ≤ n ∧ fr'.get 10 = some (i64 (k : Nat)) ∧ RL h' p { s2 with units := s2.units ++ (List.range k).map fun i => piece bs sz s2.sent i } v' ∧ Ev h1' h' p v v') n
      ⟨0, v, by simp, by omega, by simp, by simpa using hpl2, hev2⟩ ?_
    rintro J hJ m fr' h' ⟨k, v', rfl, hk, h10, hpl, hev⟩ hfr
    have hn' : fr'.n = 103 := hfr.1.trans (by simp [hn2])
    have h0' : fr'.get 0 = some (.ptr p 0) := (hfr.2 0 (by kernel_rfl)).trans (by simp [h02])
    have h1' : fr'.get 1 = some x := (hfr.2 1 (by kernel_rfl)).trans (by simp [h12])
    have h9' : fr'.get 9 = some (i64 (sz : Int)) := (hfr.2 9 (by kernel_rfl)).trans (by simp)
    clear hfr
    have hx' : Bs h' x bs := Sl.keep hx hev.next fun c hc hl => hev.keep c hl (hxw c hc).1 (hxw c hc).2
    have hxl' : plen Try.prog 34 x = some (i64 (bs.length : Int)) := hx'.len
    have hkm : k * sz ≤ 4097 * 1000000 := Nat.mul_le_mul (by omega) hsz1
    have hkw : IntKind.i64.wrap ((k : Int) * (sz : Int)) = ((k * sz : Nat) : Int) := by rw [← Int.natCast_mul]; exact wrap_in (by omega)
    have hcl := hpl.cells
    by_cases hkn : k < n
    case neg =>
      have : k = n := by omega
      subst this
      have hk0 : ieq (k : Int) 0 = false := by rw [ieq_false]; intro e; exact hkn (by rw [hlt hsz0]; left; omega)
      have hk1 : ilt ((k * sz : Nat) : Int) (bs.length : Int) = false := by rw [ilt_false]; have := mt (hlt hsz0 (i := k)).2 hkn; omega
      simp only [Int.natCast_mul] at hk1 hkw
      simp [hn', h1', h9', h10, hk0, hkw, hxl', hk1, kseq_normal]
      exact ⟨v', hpl, hev⟩
    rw [AW_seq]
    refine AW_cut (Q' := fun e fr2 h2 => e = .normal ∧ fr2.n = 103 ∧ fr2.get 0 = some (.ptr p 0) ∧ fr2.get 1 = some x ∧ fr2.get 9 = some (i64 (sz : Int)) ∧ fr2.get 10 = some (i64 (k : Int)) ∧ h2 = h') ?_ ?_
    · rcases (hlt hsz0).1 hkn with hk0 | hk1
      · have hk0' : ieq (k : Int) 0 = true := by rw [ieq_true]; omega
        simp [hn', h0', h1', h9', h10, hk0', kseq_normal]
      · cases hk0 : ieq (k : Int) 0
        · have hk1 : ilt ((k * sz : Nat) : Int) (bs.length : Int) = true := by rw [ilt_true]; omega
          simp only [Int.natCast_mul] at hk1 hkw
          simp [hn', h0', h1', h9', h10, hk0, hkw, hxl', hk1, kseq_normal]
        · simp [hn', h0', h1', h9', h10, hk0, kseq_normal]
    rintro e fr3 h3 ⟨rfl, hn3, h03, h13, h93, h103, rfl⟩
    clear hn' h0' h1' h9' h10
    rw [kseq_normal]
    have hk1w : IntKind.i64.wrap ((k : Int) + 1) = (k : Int) + 1 := by rw [wrap_nat k (by omega)]; omega
    obtain ⟨A, hA⟩ : ∃ A, A = k * sz := ⟨_, rfl⟩
    have hB : (k + 1) * sz = A + sz := by rw [hA]; exact Nat.succ_mul k sz
    have hkw : IntKind.i64.wrap ((k : Int) * (sz : Int)) = (A : Int) := by rw [hkw, hA]
    have hkw1 : IntKind.i64.wrap (((k : Int) + 1) * (sz : Int)) = ((A + sz : Nat) : Int) := by
      have e : ((k : Int) + 1) * (sz : Int) = ((A + sz : Nat) : Int) := by rw [← hB, Int.natCast_mul]; rfl
      rw [e]; exact wrap_in (by omega)
    obtain ⟨E, hE⟩ : ∃ E, E = min (A + sz) bs.length := ⟨_, rfl⟩
    have hmin : min2 (some [i64 ((A + sz : Nat) : Int), i64 (bs.length : Int)]) = some (i64 (E : Int)) := by rw [hE]; exact min2_nat .i64 _ _
    have hkE : A ≤ E := by
      rcases (hlt hsz0).1 hkn with hk0 | hk1
      · rw [hA, hk0, Nat.zero_mul]; exact Nat.zero_le _
      · rw [← hA] at hk1; omega
    have hEl : E ≤ bs.length := by omega
    obtain ⟨w, hw, hws, hwb⟩ := hx'.slice (lo := some (i64 (A : Int))) (hi := some (i64 (E : Int))) (i := A) (j := E) (by simp [bnd, nat?]) (by simp [bnd, nat?]) hkE hEl
    have hdata : (bs.drop A).take (E - A) = (piece bs sz s2.sent k).data := by
      simp only [piece, ← hA, hE]
      by_cases hh : A + sz ≤ bs.length
      · rw [Nat.min_eq_left hh, show A + sz - A = sz by omega]
      · rw [Nat.min_eq_right (by omega), List.take_of_length_le (by simp), List.take_of_length_le (by simp; omega)]
    rw [hdata] at hws
    have hlast : ieq (E : Int) (bs.length : Int) = (piece bs sz s2.sent k).last := by
      simp only [piece, hB, ← hE]
      by_cases hh : E = bs.length
      · rw [hh]; simp; exact ieq_true.2 rfl
      · rw [ieq_false.2 (by omega)]; simp [hh]
    have hdl : (piece bs sz s2.sent k).data.length ≤ 4096 := by simp [piece]; omega
    have hp40 : Pres h3 (h3.new (.cells 5 [] (some 0))) := (Pres.refl h3).new _
    obtain ⟨d, h5, hap5, hg5, hp5, hf5⟩ := appF (h0 := h3) (h := h3.new (.cells 5 [] (some 0))) (x := .sl h3.next 0 0 0 (.at_ 0)) (l := []) hp40 (fun c hc => by simp [blk] at hc; omega) Gf.empty (Sl.pres hws hp40) (by simp; omega)
    rw [List.nil_append] at hg5
    obtain ⟨hd1, hd2, hd3⟩ := Sl.one hg5.sl
    obtain ⟨x', h6, hap6, hc6, hx1, hx3, v2, hpl6, hev6, hpt6⟩ := hpl.push (u := piece bs sz s2.sent k) hp5 hg5.bs hf5 (by simp; omega)
    have hne4 : (h3.next = p) = False := eq_false (by have := hpl.lt; omega)
    have hpz : AV.agg (urow (piece bs sz s2.sent k) d) = .agg [i64 1, .bool (piece bs sz s2.sent k).last, i64 s2.sent, i64 (k : Int), d, i64 (-1)] := rfl
    have hcl5 := (hp5.2 p hpl.lt).trans hcl
    rw [Int.natCast_add] at hmin hkw1
    simp [hn3, h03, h13, h93, h103, hk1w, hkw1, hxl', hmin]
    rw [kseq_normal]
    refine AW_gen (fun fr4 h4 => fr4.n = 103 ∧ fr4.get 0 = some (.ptr p 0) ∧ fr4.get 1 = some x ∧ fr4.get 9 = some (i64 (sz : Int)) ∧ fr4.get 10 = some (i64 (k : Int)) ∧ fr4.get 11 = some (i64 (E : Int)) ∧ h4 = h3) ⟨by simp [hn3], by simp [h03], by simp [h13], by simp [h93], by simp [h103], by simp, rfl⟩ ?_
    rintro fr4 h4 ⟨hn4, h04, h14, h94, h104, h114, rfl⟩
    clear hn3 h03 h13 h93 h103
    refine AW_region_d [.plain, .plain, .plain, .plain, .load [0], .plain, .plain, .plain, .plain, .plain, .plain, .plain, .load [0], .plain, .plain, .plain, .plain, .plain, .plain, .plain, .plain, .eff [4, 12], .plain, .plain, .plain, .eff [], .plain, .plain, .eff []] (by kernel_rfl) (by kernel_rfl) ?_
    simp [hn4, h04, h14, h94, h104, h114, hcl, hxl', hkw, hw, hlast, hap5, hcl5, hne4, pb92_all _ _ _ hd1, pb94_all, ← hpz, pbs_one sl57 sz94 z94 rfl (by omega) (v := .agg (urow (piece bs sz s2.sent k) d)) rfl (by rw [allOne_urow]; exact hd2), urow_cells, hap6, hc6, rst_un _ _ hx1 hx3]
    simp [hn4, h104, hk1w, kseq_normal]
    rw [kloop_normal]
    refine ⟨n - (k + 1), by omega, hJ _ _ _ ⟨k + 1, v2, rfl, hkn, by simp, ?_, hev.trans hev6⟩⟩
    rw [List.range_succ, List.map_append, ← List.append_assoc]; exact hpl6
  rintro fr5 h5 ⟨v', hpl5, hev5⟩ hfr
  have hn5 : fr5.n = 103 := hfr.1.trans (by simp [hn2])
  have h05 : fr5.get 0 = some (.ptr p 0) := (hfr.2 0 (by kernel_rfl)).trans (by simp [h02])
  clear hfr
  rw [kblock_exit_eq]
  have hcl5 := hpl5.cells
  simp [hn5, h05, hcl5, kseq_normal]
  exact ⟨v', hpl5, hev5⟩
end Go.Eng.L35
