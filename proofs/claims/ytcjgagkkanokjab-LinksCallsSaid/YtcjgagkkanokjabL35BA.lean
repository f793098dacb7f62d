/- Law 35: Send of the program: its parts. -/
import Derived.Test.YtcjgagkkanokjabL35AI
import Derived.Test.YtcjgagkkanokjabE37
namespace Go.Eng.L35
open Go.Proofs Go.Eng
/-- The mark of the last unit is written. -/
theorem PL.last {h : AHeap} {p : Nat} {s : S} {v : V} (hp : PL h p s v) {k : Nat} (hk : k < s.units.length) :
    ∃ b o ob v', blk v.un = some b ∧ pindexAddr Try.prog 53 v.un (i64 (k : Int)) = some (.ptr b o) ∧ stc Try.prog 4 (h.get b) (o + 1) (.bool true) = some ob ∧
      PL (h.set b ob) p { s with units := s.units.set k { s.units[k] with last := true } } v' ∧ Ev h (h.set b ob) p v v' := by
  have hl := hp.us.length
  obtain ⟨b, o, ob, hb, hix, hbl, hst, hgw⟩ := hp.un.put (P := Try.prog) (v := .bool true) sl53 sz78 k (by omega) sz4 (f := 1) (by omega) rfl rfl
  obtain ⟨r0, hr0, d0, rfl, hd0⟩ := hp.us.get k s.units[k] (List.getElem?_eq_getElem hk)
  rw [List.getElem?_eq_getElem (by omega)] at hr0
  have hrow := Option.some.inj hr0
  have hpb : p ≠ b := fun e => hp.away.un (by rw [hb, e])
  have hkeep : ∀ c, c ≠ b → (h.set b ob).get c = h.get c := fun c hc => get_ne _ (Ne.symm hc)
  have hU : URs (h.set b ob) s.units v.rows := hp.us.keep (by simp) fun c hc _ => hkeep c fun e => (hp.sep c hc).1 (.inr (.inr (.inl (by rw [hb, e]))))
  have hd0' : Bs (h.set b ob) d0 s.units[k].data := Sl.keep hd0 (by simp) fun c hc _ => hkeep c fun e => (hp.sep c ⟨v.rows[k], List.getElem_mem _, by rw [hrow]; exact hc⟩).1 (.inr (.inr (.inl (by rw [hb, e]))))
  have hrb : rowB (v.rows[k].set 1 (.bool true)) = rowB v.rows[k] := by rw [hrow]; rfl
  obtain ⟨r1, r2⟩ := hp.of_un (x := v.un) (rows' := v.rows.set k (v.rows[k].set 1 (.bool true))) (s' := { s with units := s.units.set k { s.units[k] with last := true } }) (h' := h.set b ob) (by simp) (fun c _ _ hc => hkeep c fun e => hc (by rw [hb, e])) (by rw [get_ne _ (Ne.symm hpb)]; exact hp.cells) hgw
    (URs.set (u := { s.units[k] with last := true }) (row := v.rows[k].set 1 (.bool true)) ⟨d0, by rw [hrow]; rfl, hd0'⟩ k hU) (fun c hc => .inl hc) (fun row hm c hc => .inl (mem_set_rows (by omega) hrb row hm c hc))
  exact ⟨b, o, ob, _, hb, hix, hst, r1, r2⟩
theorem pb52_no (m k : Int) {d : AV} (hd : d.cells = [d]) : pbuild Try.prog 52 [(0, i64 1), (2, i64 m), (3, i64 k), (4, d)] = some (.agg [i64 1, .bool false, i64 m, i64 k, d]) := by
  rw [pb52]; simp [bstep, splice, hd]
theorem pb78_all (m k : Int) (d : AV) : pbuild Try.prog 78 [(0, .agg [i64 1, .bool false, i64 m, i64 k, d]), (1, i64 (-1))] = some (.agg [i64 1, .bool false, i64 m, i64 k, d, i64 (-1)]) := by
  rw [pb78]; rfl
@[simp] theorem aeval_nilFunc (fr : AFrame) (g : Nat) : aeval fr g (.const .nilFunc) = some .nilFunc := rfl
@[simp] theorem box2_ptr (e b o : Nat) : box2 e (some (.ptr b o)) = some (e, [.ptr b o], .ptr) := rfl
theorem RW_gen {P : Program} [Orc] {c : Code} {b : Bool} {fr : AFrame} {h : AHeap} {Q : AEx → Bool → AFrame → AHeap → Prop} (F : AFrame → AHeap → Prop) (hF : F fr h) (hc : ∀ fr' h', F fr' h' → RW P c b fr' h' Q) : RW P c b fr h Q := hc fr h hF
/-- The registers of yield. -/
def YI (Y : List Nat) : Prop := 0 ∈ Y ∧ ∀ i ∈ Y, i = 0 ∨ i = 12
theorem YI.no {Y : List Nat} (hy : YI Y) {i : Nat} (h0 : i ≠ 0) (h1 : i ≠ 12) : Y.contains i = false := by
  rw [Bool.eq_false_iff]
  intro h
  rcases hy.2 i (by simpa using h) with e | e
  · exact h0 e
  · exact h1 e
theorem YI.drop {Y : List Nat} (hy : YI Y) {i : Nat} (h0 : i ≠ 0) (h1 : i ≠ 12) : dropY Y (some i) = Y := by
  simp only [dropY, List.filter_eq_self]
  intro a ha
  rcases hy.2 a ha with e | e
  · subst e; simp; omega
  · subst e; simp; omega
theorem YI.cons {Y : List Nat} (hy : YI Y) : YI (12 :: Y) := ⟨List.mem_cons_of_mem _ hy.1, fun i hi => by
  rcases List.mem_cons.1 hi with e | e
  · exact .inr e
  · exact hy.2 i e⟩
theorem YI.nm {Y : List Nat} (hy : YI Y) {i : Nat} (h0 : i ≠ 0) (h1 : i ≠ 12) : i ∉ Y := fun h => by
  rcases hy.2 i h with e | e
  · exact h0 e
  · exact h1 e
@[simp] theorem dropY_none (Y : List Nat) : dropY Y none = Y := rfl
@[simp] theorem wd_n (fr : AFrame) (D : List Deferred) : (fr.wd D).n = fr.n := rfl
@[simp] theorem wd_get (fr : AFrame) (D : List Deferred) (i : Nat) : (fr.wd D).get i = fr.get i := rfl
theorem YI.zero {Y : List Nat} (hy : YI Y) : Y.contains 0 = true := by simpa using hy.1
theorem frameI_get (fn : Func) (caps : List AV) (i : Nat) : (frameI fn caps).get i = if 1 ≤ i ∧ i < 1 + caps.length then caps[i - 1]? else none := by
  simp only [frameI, AFrame.get, args0_get, T.get_nil]
theorem set_last {L A : List U} {x : U} {j : Nat} (hL : L = A ++ [x]) (hj : j = A.length) (hk : j < L.length) : L.set j { L[j] with last := true } = A ++ [{ x with last := true }] := by
  subst hL; subst hj
  rw [List.set_append_right _ _ (Nat.le_refl _)]
  simp
theorem pieces_last (bs : List UInt8) (sz : Nat) (hs : 0 < sz) (M : Int) (us : List U) (m : Nat) (hm : m + 1 = pieceN bs.length sz) (hk : us.length + m < (us ++ (List.range (m + 1)).map fun i => { piece bs sz M i with last := false }).length) :
    (us ++ (List.range (m + 1)).map fun i => { piece bs sz M i with last := false }).set (us.length + m) { (us ++ (List.range (m + 1)).map fun i => { piece bs sz M i with last := false })[us.length + m] with last := true } = us ++ (List.range (m + 1)).map fun i => piece bs sz M i := by
  have e1 : (List.range m).map (fun i => ({ piece bs sz M i with last := false } : U)) = (List.range m).map fun i => piece bs sz M i := by
    refine List.map_congr_left fun i hi => ?_
    have hi : i < m := by simpa using hi
    have h1 : i + 1 < pieceN bs.length sz := by omega
    rw [pieceN_lt hs] at h1
    have h2 : (i + 1) * sz < bs.length := by omega
    have : (min ((i + 1) * sz) bs.length == bs.length) = false := by rw [beq_eq_false_iff_ne]; omega
    simp only [piece, this]
  have e2 : ({ piece bs sz M m with last := true } : U) = piece bs sz M m := by
    have h1 : ¬ (m + 1 < pieceN bs.length sz) := by omega
    rw [pieceN_lt hs] at h1
    have : (min ((m + 1) * sz) bs.length == bs.length) = true := by rw [beq_iff_eq]; omega
    simp only [piece, this]
  rw [set_last (A := us ++ (List.range m).map fun i => piece bs sz M i) (x := { piece bs sz M m with last := false }) (by rw [List.range_succ, List.map_append, e1, List.append_assoc]; rfl) (by simp) hk]
  rw [List.range_succ, List.map_append, List.append_assoc]
  exact congrArg (fun x => us ++ (((List.range m).map fun i => piece bs sz M i) ++ [x])) e2
variable [O35]
theorem pieces_sp {h : AHeap} {x : AV} {n : Int} (hx : x.cells = [x] ∧ AV.one x = true ∧ allOne x = true) : Ca Try.prog 31 [x, i64 n] h fun r h' => r = .func 47 [.ptr (h.next + 1) 0, .ptr h.next 0] ∧ h' = (h.new (.cells 34 [x] (some 0))).new (.cells 3 [i64 n] (some 0)) := by
  refine ci Try.func31 rfl (by decide) ?_
  intro fr hn hg
  replace hn : fr.n = 6 := hn
  have h0 : fr.get 0 = some x := hg 0 (by simp)
  have h1 : fr.get 1 = some (i64 n) := hg 1 (by simp)
  clear hg
  show AW _ _ _ _ _
  simp [hn, h0, h1, hx.1, hx.2.1, hx.2.2, kseq_normal, box2]
/-- Behind some rounds. -/
structure SJ (h0 : AHeap) (p bx bs_ bd : Nat) (v0 : V) (s : S) (sz : Nat) (bs : List UInt8) (k : Nat) (h : AHeap) (v : V) (x : AV) : Prop where
  pl : PL h p { s with units := s.units ++ (List.range k).map fun i => { piece bs sz s.sent i with last := false } } v
  ev : Ev h0 h p v0 v
  gx : h.get bx = .cells 27 [.ptr p 0] (some 0)
  gs : h.get bs_ = .cells 3 [i64 (sz : Int)] (some 0)
  gd : h.get bd = .cells 34 [x] (some 0)
  out : ∀ c, c = bx ∨ c = bs_ ∨ c = bd → h0.next ≤ c ∧ c < h.next ∧ ¬ v.W p c ∧ ¬ v.R c ∧ blk v.pt ≠ some c
  ne : bx ≠ bs_ ∧ bx ≠ bd ∧ bs_ ≠ bd
  bx_ : Bs h x (bs.drop (k * sz))
  bo : ∀ c, blk x = some c → c < h0.next ∧ ¬ v0.W p c ∧ blk v0.pt ≠ some c
theorem psend_rb {h : AHeap} {p : Nat} {s : S} {v : V} {x : AV} {bs : List UInt8} {sz : Nat} (hp : PL h p s v) (now : Int) (hx : Bs h x bs) (hxw : ∀ c, blk x = some c → ¬ v.W p c ∧ blk v.pt ≠ some c) (hsz : s.size = 24 + (sz : Int)) (hsz0 : 0 < sz) (hsz1 : sz ≤ 1000000) (hul : s.units.length ≤ 50000) :
    RB Try.prog 10 [.ptr p 0, x, i64 now] h fun r h' => r = .tuple [i64 (sendR s sz bs now).2.1, i64 (sendR s sz bs now).2.2] ∧ ∃ v', PL h' p (sendR s sz bs now).1 v' ∧ Ev h h' p v v' := by
  refine RB_intro Try.func10 rfl ?_
  intro fr hn hg
  replace hn : fr.n = 92 := hn
  have h0 : fr.get 0 = some (.ptr p 0) := hg 0
  have h1 : fr.get 1 = some x := hg 1
  have h2 : fr.get 2 = some (i64 now) := hg 2
  have h55 : ∀ i, 3 ≤ i → fr.get i = none := fun i hi => by rw [hg]; exact List.getElem?_eq_none (by simpa using hi)
  clear hg
  show RW _ _ _ _ _ _
  have hxl : plen Try.prog 34 x = some (i64 (bs.length : Int)) := hx.len
  have bad : ∀ e h', Pres h h' → sendE s bs now = e → ieq e 0 = false → AV.tuple [i64 0, i64 e] = AV.tuple [i64 (sendR s sz bs now).2.1, i64 (sendR s sz bs now).2.2] ∧ ∃ v', PL h' p (sendR s sz bs now).1 v' ∧ Ev h h' p v v' := fun e h' hpr he h0 => by
    have : sendR s sz bs now = (s, 0, e) := by unfold sendR; rw [he, h0]; rfl
    rw [this]; exact ⟨rfl, v, hp.pres hpr, hpr.ev p v⟩
  have hp1 : Pres h (h.new (.cells 27 [.ptr p 0] (some 0))) := (Pres.refl h).new _
  refine RW_seq (by kernel_rfl) ?_
  simp [hn, h0]
  rw [kR_normal]
  refine RW_seq (by kernel_rfl) ?_
  simp [hn, kseq_normal]
  rw [kR_normal]
  refine RW_seq (by kernel_rfl) ?_
  simp [hn, h1, hxl, kseq_normal]
  refine Br.mk (fun hb1 => ?_) (fun hb1 => ?_)
  · simp [hn, kseq_normal]
    have := bad 20 _ hp1 (by unfold sendE; rw [hb1]; rfl) rfl
    simpa using this
  rw [kR_normal]
  refine RW_seq (by kernel_rfl) ?_
  simp [hn, h2, kseq_normal]
  refine (ptime_sp (hp.pres hp1) now).mono ?_
  rintro r h1' ⟨rfl, rfl⟩
  simp [hn, kseq_normal]
  refine Br.mk (fun hb2 => ?_) (fun hb2 => ?_)
  case refine_2 =>
    simp [hn, kseq_normal]
    have := bad (timeE s now) _ hp1 (by unfold sendE; rw [hb1, hb2]; rfl) hb2
    simpa using this
  rw [kR_normal]
  have hne3 : (h.next = p) = False := eq_false (by have := hp.lt; omega)
  have hne3' : (p = h.next) = False := eq_false (by have := hp.lt; omega)
  have hcl := hp.cells
  refine RW_seq (by kernel_rfl) ?_
  rw [AW_seq]
  refine AW_region_t _ _ _ _ _ (by kernel_rfl) ?_
  simp [hn, hne3, hcl, kseq_normal]
  refine Br.mk (fun hb3 => ?_) (fun hb3 => ?_)
  case refine_2 =>
    simp [hn, kseq_normal]
    have := bad 2 _ hp1 (by unfold sendE; rw [hb1, hb2, hb3]; rfl) rfl
    simpa using this
  rw [kR_normal]
  refine RW_seq (by kernel_rfl) ?_
  simp [hn, hne3, hcl, kseq_normal]
  refine Br.mk (fun hb4 => ?_) (fun hb4 => ?_)
  case refine_2 =>
    simp [hn, kseq_normal]
    have := bad 18 _ hp1 (by unfold sendE; rw [hb1, hb2, hb3, hb4]; rfl) rfl
    simpa using this
  rw [kR_normal]
  refine RW_seq (by kernel_rfl) ?_
  simp [hn, hne3, hcl, h2, pst_clock]
  rw [kR_normal]
  obtain ⟨M, hM⟩ : ∃ M, M = IntKind.i64.wrap (s.sent + 1) := ⟨_, rfl⟩
  have hS : sendR s sz bs now = ({ s with clock := now, sent := M, units := s.units ++ (List.range (pieceN bs.length sz)).map fun i => piece bs sz M i }, M, 0) := by
    have : sendE s bs now = 0 := by unfold sendE; rw [hb1, hb2, hb3, hb4]; rfl
    unfold sendR; rw [this, hM]; rfl
  rw [hS]
  clear bad hS
  have hlen : bs.length ≤ 4096 := by rw [ilt_false] at hb1; omega
  refine RW_seq (by kernel_rfl) ?_
  simp [hn, hne3, hne3', hcl, pst_sent]
  rw [← hM, kR_normal]
  have hpl2 := ((hp.pres hp1).put { s with clock := now }).put { s with clock := now, sent := M }
  have hev2 := (hp1.ev p v).trans ((Ev.set (h.new (.cells 27 [.ptr p 0] (some 0))) p v (.cells 56 (pcells { s with clock := now } v) (some 0))).trans (Ev.set _ p v (.cells 56 (pcells { s with clock := now, sent := M } v) (some 0))))
  have hsz' : IntKind.i64.wrap (s.size - 24) = (sz : Int) := by rw [hsz, show (24 + (sz : Int)) - 24 = (sz : Int) by omega]; exact wrap_in (by omega)
  refine RW_gen (fun fr' h' => fr'.n = 92 ∧ fr'.get 1 = some x ∧ fr'.get 3 = some (.ptr h.next 0) ∧ PL h' p { s with clock := now, sent := M } v ∧ Ev h h' p v v ∧ h'.get h.next = .cells 27 [.ptr p 0] (some 0) ∧ h.next < h'.next) ⟨by simp [hn], by simp [h1], by simp, hpl2, hev2, by simp [hne3'], by simp⟩ ?_
  clear hpl2 hev2 hn h0 h1 h2 hne3 hne3' hcl hp1 hb1 hb2 hb3 hb4 hM h55
  rintro fr2 h2' ⟨hn2, h12, h32, hpl2, hev2, hbx, hlt⟩
  obtain ⟨s2, hs2⟩ : ∃ s2 : S, s2 = { s with clock := now, sent := M } := ⟨_, rfl⟩
  have eS : ({ s with clock := now, sent := M, units := s.units ++ (List.range (pieceN bs.length sz)).map fun i => piece bs sz M i } : S) = { s2 with units := s2.units ++ (List.range (pieceN bs.length sz)).map fun i => piece bs sz M i } := by rw [hs2]
  have e1 : s2.size = s.size := by rw [hs2]
  have e2 : s2.sent = M := by rw [hs2]
  have e3 : s2.units = s.units := by rw [hs2]
  rw [← hs2] at hpl2
  rw [eS]
  rw [← e1] at hsz'
  rw [← e3] at hul
  clear hs2 eS e1 e3
  subst e2
  have hcl2 := hpl2.cells
  have hx2 : Bs h2' x bs := Sl.keep hx hev2.next fun c hc hl => hev2.keep c hl (hxw c hc).1 (hxw c hc).2
  refine RW_assoc (RW_seq (by kernel_rfl) ?_)
  simp [hn2, h12, h32, hbx, hcl2, hsz', kseq_normal]
  refine (pieces_sp hx2.one).mono ?_
  rintro r h3 ⟨rfl, rfl⟩
  simp [hn2]
  rw [kR_normal]
  refine RW_gen (fun fr' h' => fr'.n = 92 ∧ fr'.get 3 = some (.ptr h.next 0) ∧ fr'.get 54 = some (.func 47 [.ptr (h2'.next + 1) 0, .ptr h2'.next 0]) ∧ h' = (h2'.new (.cells 34 [x] (some 0))).new (.cells 3 [i64 (sz : Int)] (some 0))) ⟨by simp [hn2], by simp [h32], by simp, rfl⟩ ?_
  rintro fr3 h3 ⟨hn3, h33, h354, rfl⟩
  clear hn2 h12 h32
  refine RW_seq' true (RW_block (b' := true) ?_)
  refine RW_range (gf := 47) (caps := [.ptr (h2'.next + 1) 0, .ptr h2'.next 0]) (by simp [h354]) Try.func47 rfl rfl (by kernel_rfl) ?_
  obtain ⟨n, hnn⟩ : ∃ n, n = pieceN bs.length sz := ⟨_, rfl⟩
  rw [← hnn]
  refine YW_mono (Q := fun e s' => (e = .normal ∨ e = .ret) ∧ ∃ v', PL s'.2.2 p { s2 with units := s2.units ++ (List.range n).map fun i => { piece bs sz s2.sent i with last := false } } v' ∧ Ev h s'.2.2 p v v' ∧ s'.2.2.get h.next = .cells 27 [.ptr p 0] (some 0) ∧ h.next < s'.2.2.next ∧ ¬ v'.W p h.next) ?_ ?_
  · show YW _ _ _ _ _ _ _ _
    have hnI : (frameI Try.f47 [AV.ptr (h2'.next + 1) 0, .ptr h2'.next 0]).n = 28 := rfl
    have hgI := frameI_get Try.f47 [AV.ptr (h2'.next + 1) 0, .ptr h2'.next 0]
    generalize frameI Try.f47 [AV.ptr (h2'.next + 1) 0, .ptr h2'.next 0] = frI at hnI hgI ⊢
    refine YW_seq (YW_region (YO_plain rfl ?_))
    simp [hnI]
    refine YO_nil ?_
    rw [kY_normal]
    have hxone := hx2.one
    have hd : ∀ k : Nat, (if k = 0 then (0 : Nat) else 0) = 0 := fun k => by simp
    have inv0 : SJ h p h.next (h2'.next + 1) h2'.next v s2 sz bs 0 ((h2'.new (.cells 34 [x] (some 0))).new (.cells 3 [i64 (sz : Int)] (some 0))) v x := by
      have hp3 : Pres h2' ((h2'.new (.cells 34 [x] (some 0))).new (.cells 3 [i64 (sz : Int)] (some 0))) := ((Pres.refl h2').new _).new _
      have hlt2 := hp.blks
      refine ⟨by simpa using hpl2.pres hp3, hev2.trans (hp3.ev p v), by simp; rw [if_neg (by omega), if_neg (by omega)]; exact hbx, by simp, by simp, fun c hc => ?_, by omega, ?_, fun c hc => ⟨Sl.blk_lt hx hc, (hxw c hc).1, (hxw c hc).2⟩⟩
      · have hh : h.next ≤ c ∧ c < h2'.next + 2 := by rcases hc with rfl | rfl | rfl <;> omega
        refine ⟨hh.1, by simpa using hh.2, fun e => ?_, fun e => ?_, fun e => ?_⟩
        · have := hlt2 c (.inl e); omega
        · have := hlt2 c (.inr (.inl e)); omega
        · have := hlt2 c (.inr (.inr e)); omega
      · simpa using hx2.pres hp3
    have hn0 : 0 < n := by rw [hnn, pieceN_lt hsz0]; exact .inl rfl
    refine YW_block (YW_loop (fun m s => ∃ k v' x', m = n - k ∧ k < n ∧ YI s.2.1 ∧ s.1.n = 28 ∧ s.1.get 1 = some (.ptr (h2'.next + 1) 0) ∧ s.1.get 2 = some (.ptr h2'.next 0) ∧ s.1.get 4 = some (i64 (k : Int)) ∧ s.1.get 12 = none ∧ SJ h p h.next (h2'.next + 1) h2'.next v s2 sz bs k s.2.2 v' x') n
      ⟨0, v, x, by omega, hn0, ⟨by simp [dropY], by simp [dropY]⟩, by simp [hnI], by simp [hgI], by simp [hgI], by simp, by simp [hgI], inv0⟩ ?_)
    clear inv0 hpl2 hcl2 hx2 hbx hev2
    rintro m ⟨fr', Y', h'⟩ ⟨k, v', x', rfl, hk, hY, hn', h1', h2x, h4', h12', J⟩
    simp only at hY hn' h1' h2x h4' h12' J
    refine YW_seq (YW_block (YW_seq (YW_region ?_)))
    have hgd := J.gd
    have hgs := J.gs
    have hxo := J.bx_.one
    have hxl' : plen Try.prog 34 x' = some (i64 ((bs.length - k * sz : Nat) : Int)) := by have := J.bx_.len; simpa using this
    have hmin : min2 (some [i64 (sz : Int), i64 ((bs.length - k * sz : Nat) : Int)]) = some (i64 ((min sz (bs.length - k * sz) : Nat) : Int)) := min2_nat .i64 _ _
    refine YO_run 5 (by simp [isY, hY.drop]) ?_
    obtain ⟨E, hE⟩ : ∃ E, E = min sz (bs.length - k * sz) := ⟨_, rfl⟩
    rw [← hE] at hmin
    obtain ⟨R, hR⟩ : ∃ R, R = bs.length - k * sz := ⟨_, rfl⟩
    rw [← hR] at hmin hxl'
    simp [hn', h1', h2x, h4', hgd, hgs, hxl', hmin]
    refine YO_nil ?_
    rw [kY_normal]
    obtain ⟨y, hy1, hy2, hy3⟩ := J.bx_.slice (lo := none) (hi := some (i64 (E : Int))) (i := 0) (j := E) (by simp [bnd]) (by simp [bnd, nat?]) (Nat.zero_le _) (by simp; omega)
    refine YW_seq (YW_seq (YW_region (YO_move hY.zero (by simp [h12']) (by simp [hn']) ?_)))
    have hY2 := hY.cons
    refine YO_run 4 (by simp [isY, hY2.drop, hY.nm]) ?_
    simp [hn', h1', h2x, h4', hgd, hgs, hxl', hmin, hy1]
    refine YO_round (l := [i64 (k : Int), y]) (by simp) (by simp [hn']) (by simp) ?_
    rw [hY2.drop (by decide) (by decide)]
    refine RD_intro (fr := ((fr3.wd []).upd 55 (i64 (k : Int))).upd 56 y) (by simp [putsF, AFrame.put_upd, hn3]) ?_
    simp [hn3]
    rw [kseq_normal]
    simp [hn3]
    have hgx := J.gx
    have hcl := J.pl.cells
    have hEl : E ≤ bs.length - k * sz := by omega
    have hEs : E ≤ sz := by omega
    have hdata : ((bs.drop (k * sz)).drop 0).take (E - 0) = (piece bs sz s2.sent k).data := by
      simp only [piece, List.drop_zero, Nat.sub_zero, hE]
      by_cases hh : sz ≤ bs.length - k * sz
      · rw [Nat.min_eq_left hh]
      · rw [Nat.min_eq_right (by omega), List.take_of_length_le (by simp), List.take_of_length_le (by simp; omega)]
    rw [hdata] at hy2
    have hdl : (piece bs sz s2.sent k).data.length ≤ 4096 := by simp [piece]; omega
    have hkn : k ≤ 4097 := by
      rcases (pieceN_lt (len := bs.length) (i := k) hsz0).1 (by rw [← hnn]; exact hk) with e | e
      · omega
      · have : k ≤ k * sz := Nat.le_mul_of_pos_right _ hsz0
        omega
    refine AW_region_d [.load [0], .load [0], .plain, .plain, .load [0], .load [0], .plain, .plain, .load [0], .plain, .plain, .eff [0, 1, 4, 5, 8], .plain, .plain, .plain, .eff [0], .plain, .plain, .eff []] (by kernel_rfl) (by kernel_rfl) ?_
    simp [hn3, h33, hgx, hcl]
    refine (clone_sp h' y _ hy2 (by omega)).mono ?_
    rintro d h5 ⟨hg5, hp5, hf5⟩
    obtain ⟨hd1, hd2, hd3⟩ := Sl.one hg5.sl
    obtain ⟨o1, o2, o3, o4, o5⟩ := J.out h.next (.inl rfl)
    have hgx5 := (hp5.2 h.next o2).trans hgx
    have hcl5 := (hp5.2 p J.pl.lt).trans hcl
    obtain ⟨x6, h6, hap6, hc6, hx1, hx3, v2, hpl6, hev6, hpt6⟩ := J.pl.push (u := { piece bs sz s2.sent k with last := false }) hp5 hg5.bs hf5 (by simp; omega)
    have hpz : AV.agg (urow { piece bs sz s2.sent k with last := false } d) = .agg [i64 1, .bool false, i64 s2.sent, i64 (k : Int), d, i64 (-1)] := rfl
    have hpn : ∀ c, h.next ≤ c → p ≠ c := fun c hc e => by have := hp.lt; omega
    have hk6 : ∀ c, c = h.next ∨ c = h2'.next + 1 ∨ c = h2'.next → h6.get c = h'.get c := fun c hc => by
      obtain ⟨q1, q2, q3, q4, q5⟩ := J.out c hc
      have := hev6.keep c q2 q3 q5
      rwa [get_ne _ (hpn c q1)] at this
    have hgx6 := (hk6 _ (.inl rfl)).trans hgx
    simp [hn3, h33, hgx, hcl, hgx5, hcl5, pb52_no _ _ hd1, pb78_all, ← hpz, pbs_one sl53 sz78 z78 rfl (by omega) (v := .agg (urow { piece bs sz s2.sent k with last := false } d)) rfl (by rw [allOne_urow]; exact hd2), urow_cells, hap6, hc6, pst_un _ _ hx1 hx3, hgx6]
    have hgd6 := (hk6 _ (.inr (.inr rfl))).trans hgd
    have hgs6 := (hk6 _ (.inr (.inl rfl))).trans hgs
    have e1 : h2'.next + 1 ≠ p := fun e => hpn (h2'.next + 1) (by omega) e.symm
    have e2 : h2'.next ≠ p := fun e => hpn h2'.next (by omega) e.symm
    obtain ⟨h7, hh7⟩ : ∃ h7, h7 = h6.set p (.cells 56 (pcells { s2 with units := s2.units ++ (List.range k).map fun i => { piece bs sz s2.sent i with last := false } } { v' with un := x6 }) (some 0)) := ⟨_, rfl⟩
    rw [← hh7] at hpl6 hev6 ⊢
    clear hh7 hap6 hc6 hgx6 hgd6 hgs6 hk6
    have hpl7 : PL h7 p { s2 with units := s2.units ++ (List.range (k + 1)).map fun i => { piece bs sz s2.sent i with last := false } } v2 := by
      rw [List.range_succ, List.map_append, ← List.append_assoc]; exact hpl6
    have hev7 := J.ev.trans hev6
    have hg7 : ∀ c, c = h.next ∨ c = h2'.next + 1 ∨ c = h2'.next → h7.get c = h'.get c := fun c hc => by
      obtain ⟨q1, q2, q3, q4, q5⟩ := J.out c hc
      exact hev6.keep c q2 q3 q5
    have hout7 : ∀ c, c = h.next ∨ c = h2'.next + 1 ∨ c = h2'.next → h.next ≤ c ∧ c < h7.next ∧ ¬ v2.W p c ∧ ¬ v2.R c ∧ blk v2.pt ≠ some c := fun c hc => by
      obtain ⟨q1, q2, q3, q4, q5⟩ := J.out c hc
      have := hev6.next
      refine ⟨q1, by omega, fun e => ?_, fun e => ?_, fun e => ?_⟩
      · rcases hev6.w c e with e | e
        · exact q3 e
        · omega
      · rcases hev6.r c e with e | e
        · exact q4 e
        · omega
      · rcases hev6.pt c e with e | e
        · exact q5 e
        · omega
    have hgx7 := (hg7 _ (.inl rfl)).trans hgx
    have hgd7 := (hg7 _ (.inr (.inr rfl))).trans hgd
    have hgs7 := (hg7 _ (.inr (.inl rfl))).trans hgs
    have hkn1 : ieq (E : Int) (R : Int) = true ↔ ¬ k + 1 < n := by
      rw [ieq_true, hnn, pieceN_lt hsz0, Nat.succ_mul]; omega
    refine YO_run 7 (by simp [isY, hY2.drop, hY.nm]) ?_
    simp [hn', h1', h2x, hgd7, hxl']
    refine YO_nil ?_
    rw [kY_normal]
    refine YW_cond (t := ieq (E : Int) (R : Int)) (by simp) (fun hE1 => YW_ret ?_) (fun hE1 => YW_skip ?_)
    · simp only [kY_ret, kYb_ret, kYl_ret]
      have hkk : k + 1 = n := by have := hkn1.1 hE1; omega
      rw [hkk] at hpl7
      exact ⟨.inr trivial, v2, hpl7, hev7, hgx7, (hout7 _ (.inl rfl)).2.1, (hout7 _ (.inl rfl)).2.2.1⟩
    · rw [kY_normal]
      have hk1 : k + 1 < n := by
        have : ¬ ¬ k + 1 < n := fun e => by rw [hkn1.2 e] at hE1; cases hE1
        omega
      have hk1' := (pieceN_lt hsz0).1 (hnn ▸ hk1)
      have hEsz : E = sz := by
        have : (k + 1) * sz < bs.length := hk1'.resolve_left (by omega)
        rw [Nat.succ_mul] at this; omega
      have hb7 : Bs h7 x' (bs.drop (k * sz)) := Sl.keep J.bx_ hev6.next fun c hc hl => by
        obtain ⟨q1, q2, q3⟩ := J.bo c hc
        have r1 := J.ev.w c
        have r2 := J.ev.pt c
        exact hev6.keep c hl (fun e => by rcases r1 e with e | e; exact q2 e; omega) (fun e => by rcases r2 e with e | e; exact q3 e; omega)
      obtain ⟨z, hz1, hz2, hz3⟩ := hb7.slice (lo := some (i64 (E : Int))) (hi := none) (i := E) (j := (bs.drop (k * sz)).length) (by simp [bnd, nat?]) (by simp [bnd]) (by simp; omega) (Nat.le_refl _)
      have hdd : ((bs.drop (k * sz)).drop E).take ((bs.drop (k * sz)).length - E) = bs.drop ((k + 1) * sz) := by
        rw [List.drop_drop, List.take_of_length_le (by simp; omega), hEsz, Nat.succ_mul]
      rw [hdd] at hz2
      obtain ⟨hzo1, hzo2, hzo3⟩ := Sl.one hz2
      refine YW_region (YO_run 4 (by simp [isY, hY2.drop, hY.nm]) ?_)
      simp [hn', h1', h2x, hgd7, hz1, stc_all sz34, hzo1, hzo2, hzo3]
      refine YO_nil ?_
      rw [kY_normal]
      have hk1w : IntKind.i64.wrap ((k : Int) + 1) = (k : Int) + 1 := by rw [wrap_nat k (by omega)]; omega
      refine YW_region (YO_run 3 (by simp [isY, hY2.drop, hY.nm]) ?_)
      simp [hn', h4', hk1w]
      refine YO_nil ?_
      rw [kYl_normal]
      have hd8 : ∀ c, (v2.W p c ∨ v2.R c ∨ blk v2.pt = some c) → (h7.set h2'.next (.cells 34 [z] (some 0))).get c = h7.get c := fun c hc => by
        obtain ⟨q1, q2, q3, q4, q5⟩ := hout7 _ (.inr (.inr rfl))
        refine get_ne _ fun e => ?_
        subst e
        rcases hc with e | e | e
        · exact q3 e
        · exact q4 e
        · exact q5 e
      refine ⟨n - (k + 1), by omega, k + 1, rfl, hk1, hY2, by simp [hn'], by simp [h1'], by simp [h2x], by simp, by simp [h12'], v2, z, ?_⟩
      refine ⟨hpl7.keep (by simp) fun c _ hc => hd8 c hc, ?_, ?_, ?_, ?_, ?_, J.ne, ?_, fun c hc => J.bo c (by rw [← hz3]; exact hc)⟩
      · have hne8 : ∀ c, c < h.next → (h7.set h2'.next (.cells 34 [z] (some 0))).get c = h7.get c := fun c hc => get_ne _ (by omega)
        exact ⟨hev7.next, fun c hc hw hpt => (hne8 c hc).trans (hev7.keep c hc hw hpt), hev7.w, hev7.r, hev7.pt⟩
      · rw [get_ne _ (by omega)]; exact hgx7
      · rw [get_ne _ (by omega)]; exact hgs7
      · simp
      · intro c hc
        simpa using hout7 c hc
      · refine Sl.keep hz2 (by simp) fun c hc _ => get_ne _ fun e => ?_
        have := (J.bo c (by rw [← hz3]; exact hc)).1
        omega
  · rintro e ⟨fr', Y', h'⟩ ⟨he, v', hpl, hev, hbx', hlt', hnw⟩
    refine ⟨he, rfl, rfl, rfl, rfl, ?_⟩
    simp only at hpl hev hbx' hlt' hnw ⊢
    clear he Y' fr' hbx hlt hcl2 hpl2 hev2 hx2 h354
    have hn0 : 0 < n := by rw [hnn, pieceN_lt hsz0]; exact .inl rfl
    obtain ⟨m, rfl⟩ : ∃ m, n = m + 1 := ⟨n - 1, by omega⟩
    have hm4 : m ≤ 4097 := by
      rcases (pieceN_lt (len := bs.length) (i := m) hsz0).1 (by omega) with e | e
      · omega
      · have : m ≤ m * sz := Nat.le_mul_of_pos_right _ hsz0
        omega
    have hul8 := hpl.us.length
    have hsl := hpl.un.sl.len sl53
    have hcl8 := hpl.cells
    have hune : v'.un.cells = [v'.un] := (Sl.one hpl.un.sl).1
    have hlen8 : v'.rows.length = s2.units.length + (m + 1) := by rw [← hul8]; simp
    rw [hlen8] at hsl
    obtain ⟨b, o, ob, v8, hb8, hix8, hst8, hpl9, hev9⟩ := hpl.last (k := s2.units.length + m) (by simp)
    have hw8 : IntKind.i64.wrap (((s2.units.length + (m + 1) : Nat) : Int) - 1) = ((s2.units.length + m : Nat) : Int) := by rw [show ((s2.units.length + (m + 1) : Nat) : Int) - 1 = ((s2.units.length + m : Nat) : Int) by omega]; exact wrap_in (by omega)
    have hpl9' := hpl9
    simp only [pieces_last bs sz hsz0 s2.sent s2.units m hnn] at hpl9'
    have hcl9 := hpl9'.cells
    have hbb : (b = h.next) = False := eq_false fun e => hnw (.inr (.inr (.inl (by rw [← e]; exact hb8))))
    refine RW_seq (by kernel_rfl) ?_
    refine AW_region_t _ _ _ _ _ (by kernel_rfl) ?_
    push_cast at hsl hw8 hix8
    simp [hn3, h33, hbx', hcl8, hsl, hw8, hix8, hst8, hbb]
    rw [kR_normal]
    refine RW_plain (by kernel_rfl) ?_
    simp [hn3, h33, hbx', hbb, hcl9, kseq_normal]
    exact ⟨v8, hpl9', hev.trans hev9⟩
end Go.Eng.L35
