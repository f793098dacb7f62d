/- Law 35: acknowledge of the reference. -/
import Derived.Test.YtcjgagkkanokjabL35N
namespace Go.Eng.L35
open Go.Proofs Go.Eng
/-- Does an acknowledgment stand behind a place? -/
def behindB (m k m' k' : Int) : Bool := ilt m' m || (ieq m m' && ilt k' k)
def ackd (m k : Int) (u : U) : Bool := !(ilt u.at_ 0) && behindB m k u.msg u.frag
def ackR (s : S) (m k : Int) : S := match (s.units.takeWhile (ackd m k)).length with
  | 0 => s
  | n + 1 => match s.units[n]? with
    | some u => if ieq m (if u.last then IntKind.i64.wrap (u.msg + 1) else u.msg) && ieq k (if u.last then 0 else IntKind.i64.wrap (u.frag + 1)) then ackS s (n + 1) else s
    | none => s
theorem takeWhile_next {α : Type} (p : α → Bool) : ∀ (l : List α) (k : Nat), k ≤ (l.takeWhile p).length →
    (∀ a, l[k]? = some a → p a = true → k + 1 ≤ (l.takeWhile p).length) ∧ ((∀ a, l[k]? = some a → p a = false) → k = (l.takeWhile p).length)
  | [], k, hk => by simp at hk; subst hk; simp
  | a :: l, 0, _ => by
    cases hp : p a
    · simp [List.takeWhile_cons, hp]
    · simp [List.takeWhile_cons, hp]
  | a :: l, k + 1, hk => by
    cases hp : p a
    · simp [List.takeWhile_cons, hp] at hk
    · simp only [List.takeWhile_cons, hp, if_true, List.length_cons] at hk ⊢
      obtain ⟨h1, h2⟩ := takeWhile_next p l k (by omega)
      refine ⟨fun b hb hpb => ?_, fun hb => ?_⟩
      · have := h1 b (by simpa using hb) hpb; omega
      · have := h2 (fun b h => hb b (by simpa using h)); omega
theorem pbs57_0 : pbs Try.prog 57 0 [] = some (94, [], .sl 0 0) := by kernel_rfl
variable [O35]
theorem behind_sp {h : AHeap} (m k m' k' : Int) : Ca Try.prog 59 [i64 m, i64 k, i64 m', i64 k'] h fun r h' => r = .bool (behindB m k m' k') ∧ h' = h := by
  refine ci Try.func59 rfl (by decide) ?_
  intro fr hn hg
  replace hn : fr.n = 22 := hn
  have h0 : fr.get 0 = some (i64 m) := hg 0 (by simp)
  have h1 : fr.get 1 = some (i64 k) := hg 1 (by simp)
  have h2 : fr.get 2 = some (i64 m') := hg 2 (by simp)
  have h3 : fr.get 3 = some (i64 k') := hg 3 (by simp)
  clear hg
  show AW _ _ _ _ _
  simp [hn, h0, h1, h2, h3, kseq_normal]
  repeat' (first | refine Br.mk (fun hb => ?_) (fun hb => ?_) | simp [*, behindB, kseq_normal])
theorem rackn_sp {h : AHeap} {q : Nat} {s : S} {v : V} {f : Fm} {d : AV} (hp : RL h q s v) (hd : Bs h d f.data) (hl : s.units.length ≤ 100000) :
    Ca Try.prog 42 [.ptr q 0, .agg (f.cells d)] h fun r h' => r = .tuple [] ∧ ∃ v', RL h' q (ackR s f.msg f.frag) v' ∧ Ev h h' q v v' := by
  refine ci Try.func42 rfl (by decide) ?_
  intro fr hn hg
  replace hn : fr.n = 131 := hn
  have h0 : fr.get 0 = some (.ptr q 0) := hg 0 (by simp)
  have h1 : fr.get 1 = some (.agg (f.cells d)) := hg 1 (by simp)
  clear hg
  show AW _ _ _ _ _
  obtain ⟨_, hd2, _⟩ := hd.one
  have hp1 : Pres h (h.new (.cells 92 (f.cells d) (some 0))) := (Pres.refl h).new _
  have hb1 : (h.new (.cells 92 (f.cells d) (some 0))).get h.next = .cells 92 (f.cells d) (some 0) := by simp
  have hn1 : (h.new (.cells 92 (f.cells d) (some 0))).next = h.next + 1 := by simp
  simp [hn, h0, h1, hd2, kseq_normal]
  have hpl := hp.pres hp1
  generalize (h.new (.cells 92 (f.cells d) (some 0))) = h1' at *
  have hul := hpl.us.length
  have hcl := hpl.cells
  have hun := hpl.un.sl
  refine AW_cut_x 0 (fun fr' h' => fr'.get 4 = some (i64 (((s.units.takeWhile (ackd f.msg f.frag)).length : Nat) : Int)) ∧ h' = h1') ?_ ?_
  · refine AW_loop_fr (fun m fr' h' => ∃ k, m = s.units.length - k ∧ k ≤ (s.units.takeWhile (ackd f.msg f.frag)).length ∧ fr'.get 4 = some (i64 (k : Nat)) ∧ h' = h1') s.units.length
      ⟨0, by simp, by omega, by simp, rfl⟩ ?_
    rintro J hJ m fr' h' ⟨k, rfl, hk, h4, rfl⟩ hfr
    have hn' : fr'.n = 131 := hfr.1.trans (by simp [hn])
    have h0' : fr'.get 0 = some (.ptr q 0) := (hfr.2 0 (by kernel_rfl)).trans (by simp [h0])
    have h3' : fr'.get 3 = some (.ptr h.next 0) := (hfr.2 3 (by kernel_rfl)).trans (by simp)
    clear hfr
    have htl : (s.units.takeWhile (ackd f.msg f.frag)).length ≤ s.units.length := (List.takeWhile_sublist _).length_le
    obtain ⟨hstep, hstop⟩ := takeWhile_next (ackd f.msg f.frag) s.units k hk
    simp only [AW_seq]
    refine AW_region_t _ _ _ _ _ (by kernel_rfl) ?_
    have hget : ∀ (hk : k < s.units.length), ∃ b o d', pindexAddr Try.prog 57 v.un (i64 (k : Int)) = some (.ptr b o) ∧ ∀ g t, isAggT Try.prog t = some false → g < 6 → atCells Try.prog t (h'.get b) (o + g) = (urow s.units[k] d')[g]? := fun hk => by
      obtain ⟨b, o, _, hix, _, _, hat⟩ := Sl.at_blk hun sl57 sz94 k (by omega)
      obtain ⟨cs, hcs, d', rfl, _⟩ := hpl.us.get k s.units[k] (List.getElem?_eq_getElem hk)
      rw [List.getElem?_eq_getElem (by omega)] at hcs
      rw [Option.some.inj hcs] at hat
      exact ⟨b, o, d', hix, hat⟩
    simp [hn', h0', h4, hcl, hun.len sl57, ← hul]
    refine Br.mk (fun hb => ?_) (fun hb => ?_)
    · have hk1 : k < s.units.length := by rw [ilt_true] at hb; omega
      obtain ⟨b, o, d', hix, hat⟩ := hget hk1
      have a1 := hat 1 4 ag4 (by omega)
      have a2 := hat 2 2 ag2 (by omega)
      have a3 := hat 3 3 ag3 (by omega)
      have a5 := hat 5 2 ag2 (by omega)
      simp at a1 a2 a3 a5
      have hkk : s.units[k]? = some s.units[k] := List.getElem?_eq_getElem hk1
      clear hat hget
      generalize s.units[k] = u at *
      have stop : ackd f.msg f.frag u = false → k = (List.takeWhile (ackd f.msg f.frag) s.units).length := fun e => hstop fun a ha => by rw [hkk] at ha; cases ha; exact e
      have step : ackd f.msg f.frag u = true → k + 1 ≤ (List.takeWhile (ackd f.msg f.frag) s.units).length := hstep u hkk
      simp [hn', h0', h3', h4, hb, hcl, hix, a1, a2, a3, a5, hb1]
      refine Br.mk (fun hb2 => ?_) (fun hb2 => ?_)
      · have := stop (by unfold ackd; rw [hb2]; rfl)
        simp [hn', h4, hb, hb2, kseq_normal, ← this]
      · simp [hn', h0', h3', h4, hb, hb2, hcl, hix, a1, a2, a3, a5, hb1]
        refine (behind_sp _ _ _ _).mono ?_
        rintro r h2 ⟨rfl, rfl⟩
        simp [hn', h4, hb, hb2, kseq_normal]
        refine Br.mk (fun hb3 => ?_) (fun hb3 => ?_)
        · simp [hn', h4, kseq_normal]
          have hs1 := step (by unfold ackd; rw [hb3, hb2]; rfl)
          rw [kloop_normal]
          exact ⟨s.units.length - (k + 1), by omega, hJ _ _ _ ⟨k + 1, rfl, hs1, by simp [wrap_nat k (by omega)], rfl⟩⟩
        · have := stop (by unfold ackd; rw [hb3]; simp)
          simp [hn', h4, kseq_normal, ← this]
    · have : k = (List.takeWhile (ackd f.msg f.frag) s.units).length := hstop fun a ha => by
        rw [ilt_false] at hb
        rw [List.getElem?_eq_none (by omega)] at ha; cases ha
      simp [hn', h4, hb, kseq_normal, ← this]
  rintro fr2 h2 ⟨h4, rfl⟩ hfr
  have hn' : fr2.n = 131 := hfr.1.trans (by simp [hn])
  have h0' : fr2.get 0 = some (.ptr q 0) := (hfr.2 0 (by kernel_rfl)).trans (by simp [h0])
  have h3' : fr2.get 3 = some (.ptr h.next 0) := (hfr.2 3 (by kernel_rfl)).trans (by simp)
  clear hfr
  rw [kblock_exit_eq, kseq_normal]
  have hpr := hp1.ev q v
  have htl : (s.units.takeWhile (ackd f.msg f.frag)).length ≤ s.units.length := (List.takeWhile_sublist _).length_le
  obtain ⟨A, hA⟩ : ∃ A, ackR s f.msg f.frag = A := ⟨_, rfl⟩
  have hA0 := hA
  rw [hA]
  unfold ackR at hA
  generalize (s.units.takeWhile (ackd f.msg f.frag)).length = n at *
  cases n with
  | zero =>
    subst hA
    have e0 : ieq 0 0 = true := rfl
    simp [hn', h4, e0, kseq_normal]
    exact ⟨rfl, v, hpl, hpr⟩
  | succ n =>
    have hx : ieq ((n : Int) + 1) 0 = false := by rw [ieq_false]; omega
    have hn1' : IntKind.i64.wrap (n : Int) = (n : Int) := wrap_in (by omega)
    obtain ⟨b, o, _, hix, _, hag, _⟩ := Sl.at_blk hun sl57 sz94 n (by omega)
    obtain ⟨cs, hcs, d', rfl, hd'⟩ := hpl.us.get n s.units[n] (List.getElem?_eq_getElem (by omega))
    rw [List.getElem?_eq_getElem (by omega)] at hcs
    rw [Option.some.inj hcs] at hag
    have hag := hag ag94
    simp only [List.getElem?_eq_getElem (show n < s.units.length by omega)] at hA
    have hd1 := hd'.one.2.1
    generalize hu : s.units[n] = u at *
    simp [hn', h4, hx]
    rw [kseq_normal]
    simp [hn', h4, hx]
    rw [kseq_normal]
    simp [hn', h4, h0', hn1', hcl, hix, hag, hd1, stc_all sz94]
    rw [kseq_normal]
    simp [hn', pb92, stc_all sz92, splice]
    rw [kseq_normal]
    rw [AW_seq]
    refine AW_cut (Q' := fun e fr' h' => e = .normal ∧ fr'.n = 131 ∧ fr'.get 0 = some (.ptr q 0) ∧ fr'.get 3 = some (.ptr h.next 0) ∧ fr'.get 4 = some (i64 ((n + 1 : Nat) : Int)) ∧ (∃ c, fr'.get 6 = some (.ptr c 0) ∧ h'.get c = .cells 92 [i64 0, .bool false, i64 (if u.last then IntKind.i64.wrap (u.msg + 1) else u.msg), i64 (if u.last then 0 else IntKind.i64.wrap (u.frag + 1)), .nilsl] (some 0)) ∧ Pres h2 h') ?_ ?_
    · simp [hn', kseq_normal]
      refine Br.mk (fun hb => ?_) (fun hb => ?_)
      · simp [hn', h0', h3', h4, hb, kseq_normal, pb92, stc_all sz92, splice]
        exact (((((Pres.refl h2).new _).set (Nat.le_refl _) _).new _).set (by simp) _).set (by simp) _
      · simp [hn', h0', h3', h4, hb, kseq_normal, pb92, stc_all sz92, splice]
        exact ((((Pres.refl h2).new _).set (Nat.le_refl _) _).new _).set (by simp) _
    rintro e fr3 h3 ⟨rfl, hn3, h03, h33, h43, ⟨c, h63, hc⟩, hp3⟩
    clear hn' h0' h3' h4
    have hpl3 := hpl.pres hp3
    have hpp := hp1.trans hp3
    have hb13 := (hp3.2 h.next (by omega)).trans hb1
    generalize (if u.last then IntKind.i64.wrap (u.msg + 1) else u.msg) = M at *
    generalize (if u.last then 0 else IntKind.i64.wrap (u.frag + 1)) = K at *
    clear hpl hcl hix hag hp3 hp1 hb1 hpr hun hd' hcs
    have hcl := hpl3.cells
    have hun := hpl3.un.sl
    have stay : A = s → ∃ v', RL h3 q A v' ∧ Ev h h3 q v v' := fun e => ⟨v, by rw [e]; exact hpl3, hpp.ev q v⟩
    rw [kseq_normal]
    simp [hn3, h03, h33, h43, h63, hc, hb13]
    refine Br.mk (fun hbm => ?_) (fun hbm => ?_)
    case refine_2 =>
      simp [hn3, hbm, kseq_normal]
      exact ⟨rfl, stay (by rw [← hA, hbm]; simp)⟩
    simp [hn3, hbm, h33, h63, hc, hb13, kseq_normal]
    refine Br.mk (fun hbk => ?_) (fun hbk => ?_)
    case refine_2 =>
      exact ⟨rfl, stay (by rw [← hA, hbk]; simp)⟩
    rw [hbm, hbk] at hA
    simp at hA
    subst hA
    simp [hn3, hbm, hbk, kseq_normal]
    have hpn : q < h3.next := hpl3.lt
    have hap : blk v.un ≠ some q := hpl3.away.un
    have hc2 := hcl
    have hus := hpl3.us
    refine AW_cut_x 2 (fun fr' h' => h'.get q = .cells 60 (rcells { s with done := doneF s.done (s.units.take (n + 1)) } v) (some 0) ∧ Upd [q] h3 h') ?_ ?_
    · refine AW_loop_fr (fun m fr' h' => ∃ k, m = n + 1 - k ∧ k ≤ n + 1 ∧ fr'.get 7 = some (i64 (k : Nat)) ∧ h'.get q = .cells 60 (rcells { s with done := doneF s.done (s.units.take k) } v) (some 0) ∧ Upd [q] h3 h') (n + 1)
        ⟨0, by simp, by omega, by simp, by simpa [doneF] using hc2, Upd.refl _ _⟩ ?_
      rintro J hJ m fr' h' ⟨k, rfl, hk, h7, hcp, hu⟩ hfr
      have hn' : fr'.n = 131 := hfr.1.trans (by simp [hn3])
      have h0' : fr'.get 0 = some (.ptr q 0) := (hfr.2 0 (by kernel_rfl)).trans (by simp [h03])
      have h4' : fr'.get 4 = some (i64 ((n : Int) + 1)) := (hfr.2 4 (by kernel_rfl)).trans (by simp [h43])
      clear hfr
      simp [hn', h7, h4', kseq_normal]
      refine Br.mk (fun hb1 => ?_) (fun hb1 => ?_)
      · have hk1 : k < n + 1 := by rw [ilt_true] at hb1; omega
        have hun' : Sl h' 6 v.un v.rows := Sl.keep hun hu.1 fun c hc hlt => hu.2 c hlt fun e => hap (by rw [hc]; simp at e; rw [e])
        obtain ⟨b2, o2, _, hix2, _, _, hat2⟩ := Sl.at_blk hun' sl57 sz94 k (by omega)
        obtain ⟨cs2, hcs2, d2, rfl, _⟩ := hus.get k s.units[k] (List.getElem?_eq_getElem (by omega))
        rw [List.getElem?_eq_getElem (by omega)] at hcs2
        rw [Option.some.inj hcs2] at hat2
        have g1 := hat2 1 4 ag4 (by omega)
        have g2 := hat2 2 2 ag2 (by omega)
        simp at g1 g2
        have hds := doneF_succ s.done (us := s.units) (k := k) (by omega)
        simp [hn', h0', h7, hcp, hix2, g1, g2, kseq_normal]
        refine Br.mk (fun hb2 => ?_) (fun hb2 => ?_)
        · simp [hn', h0', h7, hcp, hix2, g2, rst_done, kseq_normal]
          rw [kloop_normal]
          refine ⟨n + 1 - (k + 1), by omega, hJ _ _ _ ⟨k + 1, rfl, by omega, by simp [wrap_nat k (by omega)], by simp [hds, hb2], hu.trans (Upd.set_p _ _ _)⟩⟩
        · simp [hn', h7, kseq_normal]
          rw [kloop_normal]
          refine ⟨n + 1 - (k + 1), by omega, hJ _ _ _ ⟨k + 1, rfl, by omega, by simp [wrap_nat k (by omega)], by rw [hcp, hds, if_neg (by simp [hb2])], hu⟩⟩
      · have : k = n + 1 := by rw [ilt_false] at hb1; omega
        subst this
        simp [hn', kseq_normal, hcp, hu]
    rintro fr4 h4 ⟨hcp, hu⟩ hfr
    have hn4 : fr4.n = 131 := hfr.1.trans (by simp [hn3])
    have h04 : fr4.get 0 = some (.ptr q 0) := (hfr.2 0 (by kernel_rfl)).trans (by simp [h03])
    have h44 : fr4.get 4 = some (i64 ((n : Int) + 1)) := (hfr.2 4 (by kernel_rfl)).trans (by simp [h43])
    clear hfr
    have hpl4 := hpl3.of_p hu hcp
    rw [kblock_exit_eq, kseq_normal]
    have hpl5 := hpl4.pres ((Pres.refl h4).new (.cells 94 [] (some 0)))
    obtain ⟨w, hw, hws, hwb⟩ := hpl5.un.sl.slice sl57 sz94 (lo := some (i64 ((n + 1 : Nat) : Int))) (hi := none) (i := n + 1) (j := v.rows.length) (by simp [bnd, nat?]; omega) (by rfl) (by omega) (by omega)
    have hcl5 := hpl5.cells
    simp only [Int.natCast_add, Int.natCast_one] at hw
    have hwlen : (v.rows.drop (n + 1)).length ≤ 100000 := by rw [List.length_drop]; omega
    rw [List.take_of_length_le (by simp)] at hws
    obtain ⟨x', h6, hap6, hg6, hgr6⟩ := Gf.append (P := Try.prog) (Gf.empty (n := 6) (h := h4) (e := 94)) (t := 57) (tx := 57) (y := w) sl57 sz94 by94 z94 (by rfl) (by omega) (hws.src sl57) hws.1 (by simp only [List.length_nil]; omega) (by simp only [List.length_nil]; omega)
    obtain ⟨hp6, hf6⟩ := Pres.grown (h := h4) ((Pres.refl h4).new (.cells 94 [] (some 0))) (fun c hc => by simp [blk] at hc; omega) hgr6
    rw [List.nil_append] at hg6
    have hpn4 : q < h4.next := hpl4.lt
    have hc6 := (hp6.2 q hpn4).trans hcp
    obtain ⟨hx1, hx2, hx3⟩ := Sl.one hg6.sl
    simp [hn4, h04, h44, hcl5, hw, hap6, pbs57_0, hc6, rst_un _ _ hx1 hx3, rst_repeats, kseq_normal]
    refine ⟨rfl, ?_⟩
    have hrows : ∀ row ∈ v.rows.drop (n + 1), ∀ c, rowB row = some c → v.R c := fun row hm c hc => ⟨row, List.mem_of_mem_drop hm, hc⟩
    have hapq : blk x' ≠ some q := fun e => by have := hf6 q e; omega
    have hU : URs ((h6.set q (.cells 60 (rcells { s with done := doneF s.done (s.units.take (n + 1)) } { v with un := x' }) (some 0))).set q (.cells 60 (rcells { s with done := doneF s.done (s.units.take (n + 1)), repeats := 0 } { v with un := x' }) (some 0))) (s.units.drop (n + 1)) (v.rows.drop (n + 1)) := by
      refine URs.keep (h := h4) (by simp; exact hp6.1) (URs.drop hpl4.us (n + 1)) fun c ⟨row, hm, hc⟩ hlt => ?_
      have hcq : q ≠ c := fun e => hpl4.away.rows (e ▸ hrows row hm c hc)
      rw [AHeap.get_set, if_neg hcq, AHeap.get_set, if_neg hcq]
      exact hp6.2 c hlt
    obtain ⟨r1, r2⟩ := hpl4.of_un (x := x') (rows' := v.rows.drop (n + 1)) (s' := ackS s (n + 1)) (h' := (h6.set q (.cells 60 (rcells { s with done := doneF s.done (s.units.take (n + 1)) } { v with un := x' }) (some 0))).set q (.cells 60 (rcells { s with done := doneF s.done (s.units.take (n + 1)), repeats := 0 } { v with un := x' }) (some 0)))
      (by simp; exact hp6.1) (fun c hlt hne hub => by rw [AHeap.get_set, if_neg (Ne.symm hne), AHeap.get_set, if_neg (Ne.symm hne)]; exact hp6.2 c hlt) (by simp [ackS])
      (hg6.gw.keep (by simp) fun c hc hlt => by rw [AHeap.get_set, if_neg (fun e => hapq (by rw [hc, e])), AHeap.get_set, if_neg (fun e => hapq (by rw [hc, e]))])
      hU (fun c hc => .inr (hf6 c hc)) (fun row hm c hc => .inl (hrows row hm c hc))
    exact ⟨_, r1, (hpp.ev q v).trans ((hu.ev v).trans r2)⟩
end Go.Eng.L35
/- Law 35: appends of one element that is built. -/
namespace Go.Eng.L35
open Go.Proofs Go.Eng
theorem AW_gen {P : Program} [Orc] {c : Code} {fr : AFrame} {h : AHeap} {Q : AEx → AFrame → AHeap → Prop} (F : AFrame → AHeap → Prop) (hF : F fr h) (hc : ∀ fr' h', F fr' h' → AW P c fr' h' Q) : AW P c fr h Q := hc fr h hF
theorem pbs_one {t e : TypeId} {n : Nat} {v z : AV} (hu : Try.prog.underlying t = some (.slice e)) (hz : tsz Try.prog e = some n) (hz0 : tzero Try.prog e = some z) (zl : z.cells.length = n) (hn : n ≤ 1000) (hc : v.cells.length = n) (ho : allOne v = true) :
    pbs Try.prog t 1 [(0, v)] = some (e, v.cells, .sl 1 1) := by
  unfold pbs
  simp only [hu, hz, hz0]
  rw [if_pos ⟨by omega, zl⟩]
  unfold allOne at ho
  have e1 : afill (fun i => some (i * n, n)) (reps 1 z.cells) [(0, v)] = some v.cells := by
    simp [afill, reps, splice, hc, zl]
  rw [e1]
  simp only [ho, if_true]
/-- An element is built and appended. -/
theorem app1 {h : AHeap} {t e : TypeId} {n bytes : Nat} {x v z : AV} {l : List (List AV)} (hg : Gw h e n x l) (hu : Try.prog.underlying t = some (.slice e)) (hz : tsz Try.prog e = some n) (hy : tbytes Try.prog e = some bytes)
    (hz0 : tzero Try.prog e = some z) (zl : z.cells.length = n) (hn : 0 < n) (hc : v.cells.length = n) (hb : bytes ≤ 1000) (hl : l.length ≤ 1000000) :
    ∃ x' h', aappend Try.prog (h.new (.cells e v.cells (some 0))) [t, t] [x, .sl h.next 0 0 1 (.at_ 1)] = some (x', h') ∧ Gw h' e n x' (l ++ [v.cells]) ∧ Grown h x h' x' := by
  have hp : Pres h (h.new (.cells e v.cells (some 0))) := (Pres.refl h).new _
  have hs : Sl (h.new (.cells e v.cells (some 0))) n (.sl h.next 0 0 1 (.at_ 1)) [v.cells] :=
    ⟨by simp [hc], .inr (.inl ⟨h.next, 0, 0, .at_ 1, e, v.cells, some 0, rfl, by simp, by simp, by simp [hc], by simp [← hc], Nat.le_refl 1⟩)⟩
  obtain ⟨x', h', h1, h2, h3⟩ := Gw.append (P := Try.prog) (hg.pres hp) hu hz hy hz0 zl hn (hs.src hu) hs.1 (Nat.le_refl 1)
    (by simp only [List.length_cons, List.length_nil]
        have : (l.length + (0 + 1)) * bytes ≤ 1000001 * 1000 := Nat.mul_le_mul (by omega) hb
        omega) (by simp only [List.length_cons, List.length_nil]; omega)
  refine ⟨x', h', h1, h2, ⟨Nat.le_trans hp.1 h3.next, fun c hc hb => (h3.keep c (Nat.lt_of_lt_of_le hc hp.1) hb).trans (hp.2 c hc), fun c hc => ?_⟩⟩
  rcases h3.new c hc with e | e
  · exact .inl e
  · exact .inr (Nat.le_trans hp.1 e)
end Go.Eng.L35
