/- Law 35: New, both. -/
import Derived.Test.YtcjgagkkanokjabL35Z
namespace Go.Eng.L35
open Go.Proofs Go.Eng
def newE (w sz q t : Int) : Int :=
  if ilt w 1 || ilt 8 w || ilt sz 32 || ilt 4096 sz || ilt t 1 || ilt 1099511627776 t then 34 else if ilt q 0 || ilt 2 q then 17 else 0
def newS (w : Nat) (sz q t : Int) : S := ⟨List.replicate w true, sz, q, t, 0, [], 0, 0, 0, 0, false, 1, 0, [], []⟩
/-- The blocks of a link are new. -/
def NewV (h h' : AHeap) (p : Nat) (v : V) : Prop := (∀ c, v.W p c → h.next ≤ c ∧ c < h'.next) ∧ v.rows = [] ∧ v.pt = .nilsl
theorem pbs49_1 (b : Bool) : pbs Try.prog 49 1 [(0, .bool b)] = some (4, [.bool b], .sl 1 1) := by kernel_rfl
theorem pb52_new : pbuild Try.prog 52 [(0, i64 2), (2, i64 1)] = some (.agg [i64 2, .bool false, i64 1, i64 0, .nilsl]) := by kernel_rfl
theorem pb56_new {x : AV} (hx : x.cells = [x]) (sz q t : Int) : pbuild Try.prog 56 [(0, x), (1, i64 sz), (2, i64 q), (3, i64 t), (11, .agg [i64 2, .bool false, i64 1, i64 0, .nilsl])] = some (.agg [x, i64 sz, i64 q, i64 t, i64 0, .nilsl, i64 0, i64 0, i64 0, i64 0, .bool false, i64 2, .bool false, i64 1, i64 0, .nilsl, .nilsl, .nilsl]) := by
  rw [pb56]; simp [bstep, splice, hx]
theorem pb60_new (sz q t : Int) : pbuild Try.prog 60 [(1, i64 sz), (2, i64 q), (3, i64 t), (11, i64 1)] = some (.agg [.nilsl, i64 sz, i64 q, i64 t, i64 0, .nilsl, i64 0, i64 0, i64 0, i64 0, .bool false, i64 1, i64 0, .nilsl, .nilsl]) := by
  rw [pb60]; simp [bstep, splice]
variable [O35]
theorem pnew_sp {h : AHeap} (w sz q t : Int) :
    Ca Try.prog 6 [i64 w, i64 sz, i64 q, i64 t] h fun r h' => Pres h h' ∧ ((newE w sz q t ≠ 0 ∧ r = .tuple [.nilptr, i64 (newE w sz q t)]) ∨ (newE w sz q t = 0 ∧ ∃ p v, r = .tuple [.ptr p 0, i64 0] ∧ PL h' p (newS w.toNat sz q t) v ∧ NewV h h' p v)) := by
  refine ci Try.func6 rfl (by decide) ?_
  intro fr hn hg
  replace hn : fr.n = 47 := hn
  have h0 : fr.get 0 = some (i64 w) := hg 0 (by simp)
  have h1 : fr.get 1 = some (i64 sz) := hg 1 (by simp)
  have h2 : fr.get 2 = some (i64 q) := hg 2 (by simp)
  have h3 : fr.get 3 = some (i64 t) := hg 3 (by simp)
  clear hg
  show AW _ _ _ _ _
  obtain ⟨A, hA⟩ : ∃ A, A = (ilt w 1 || ilt 8 w || ilt sz 32 || ilt 4096 sz || ilt t 1 || ilt 1099511627776 t) := ⟨_, rfl⟩
  obtain ⟨B, hB⟩ : ∃ B, B = (ilt q 0 || ilt 2 q) := ⟨_, rfl⟩
  have hE : newE w sz q t = if A then 34 else if B then 17 else 0 := by unfold newE; rw [← hA, ← hB]
  simp [hn]
  rw [kseq_normal, AW_seq]
  refine AW_cut (Q' := fun e fr' h' => h' = h ∧ ((e = .ret ∧ A = true ∧ fr'.get 8 = some .nilptr ∧ fr'.get 9 = some (i64 34)) ∨ (e = .normal ∧ A = false ∧ fr'.n = 47 ∧ fr'.get 0 = some (i64 w) ∧ fr'.get 1 = some (i64 sz) ∧ fr'.get 2 = some (i64 q) ∧ fr'.get 3 = some (i64 t)))) ?_ ?_
  · clear hE
    simp [hn, h0, kseq_normal]
    repeat' (first | refine Br.mk (fun hb => ?_) (fun hb => ?_) | simp [*, kseq_normal])
  rintro e fr1 h1' ⟨rfl, ⟨rfl, hAt, k8, k9⟩ | ⟨rfl, hAf, hn1, h01, h11, h21, h31⟩⟩
  · simp [k8, k9, hE, hAt]
    exact Pres.refl _
  clear hn h0 h1 h2 h3
  rw [kseq_normal, AW_seq]
  refine AW_cut (Q' := fun e fr' h' => h' = h1' ∧ ((e = .ret ∧ B = true ∧ fr'.get 8 = some .nilptr ∧ fr'.get 9 = some (i64 17)) ∨ (e = .normal ∧ B = false ∧ fr'.n = 47 ∧ fr'.get 0 = some (i64 w) ∧ fr'.get 1 = some (i64 sz) ∧ fr'.get 2 = some (i64 q) ∧ fr'.get 3 = some (i64 t)))) ?_ ?_
  · clear hE hA
    simp [hn1, h21, kseq_normal]
    repeat' (first | refine Br.mk (fun hb => ?_) (fun hb => ?_) | simp [*, kseq_normal])
  rintro e fr2 h2' ⟨rfl, ⟨rfl, hBt, k8, k9⟩ | ⟨rfl, hBf, hn2, h02, h12, h22, h32⟩⟩
  · simp [k8, k9, hE, hAf, hBt]
    exact Pres.refl _
  clear hn1 h01 h11 h21 h31
  rw [kseq_normal]
  have hE0 : newE w sz q t = 0 := by rw [hE, hAf, hBf]; rfl
  have hw : 1 ≤ w ∧ w ≤ 8 := by
    rw [hA] at hAf
    simp only [Bool.or_eq_false_iff, ilt_false] at hAf
    omega
  obtain ⟨n, rfl⟩ := Int.eq_ofNat_of_zero_le (show 0 ≤ w by omega)
  have hs1 : Sl (h2'.new (.cells 4 [.bool true] (some 0))) 1 (.sl h2'.next 0 0 1 (.at_ 1)) [[.bool true]] := ⟨by simp, .inr (.inl ⟨h2'.next, 0, 0, .at_ 1, 4, [.bool true], some 0, rfl, by simp, by simp, by simp, by simp, Nat.le_refl 1⟩)⟩
  simp [hn2, h02, pbs49_1, kseq_normal]
  refine (rep_sp hs1 (by omega) (by omega)).mono ?_
  rintro r h3 ⟨b, z, rfl, hgb, hb1, hb2, hp3⟩
  simp [hn2, h12, h22, h32, pb52_new, pb56_new (x := .sl b 0 z n (.at_ n)) rfl, hE0, kseq_normal]
  have hpp : Pres h2' h3 := ((Pres.refl h2').new _).trans hp3
  have hb1' : h2'.next ≤ b := by simp at hb1; omega
  refine ⟨hpp.new _, ⟨b, .sl b 0 z n (.at_ n), .nilsl, .nilsl, .nilsl, []⟩, ⟨by simp [newS], by simp, ?_, Gw.nil _ _ _, .nil, Gf.nil _ _ _, Gw.nil _ _ _, fun c ⟨row, hm, _⟩ => by cases hm⟩, fun c hc => ?_, rfl, rfl⟩
  · refine ⟨z, .at_ n, List.replicate n (.bool true), by simp [newS], by simp; omega, ?_, by simp [newS], by simp [newS], by simp [newS, Cok]⟩
    show (h3.new _).get b = _
    rw [AHeap.get_new, if_neg (by omega)]; exact hgb
  · have := hpp.1
    rcases hc with hc | hc | hc | hc
    · subst hc; simp; omega
    · have hc : c = b := hc
      subst hc; simp; omega
    · simp [blk] at hc
    · simp [blk] at hc
theorem rnew_sp {h : AHeap} (w sz q t : Int) :
    Ca Try.prog 7 [i64 w, i64 sz, i64 q, i64 t] h fun r h' => Pres h h' ∧ ((newE w sz q t ≠ 0 ∧ r = .tuple [.nilptr, i64 (newE w sz q t)]) ∨ (newE w sz q t = 0 ∧ ∃ p v, r = .tuple [.ptr p 0, i64 0] ∧ RL h' p (newS w.toNat sz q t) v ∧ NewV h h' p v)) := by
  refine ci Try.func7 rfl (by decide) ?_
  intro fr hn hg
  replace hn : fr.n = 60 := hn
  have h0 : fr.get 0 = some (i64 w) := hg 0 (by simp)
  have h1 : fr.get 1 = some (i64 sz) := hg 1 (by simp)
  have h2 : fr.get 2 = some (i64 q) := hg 2 (by simp)
  have h3 : fr.get 3 = some (i64 t) := hg 3 (by simp)
  clear hg
  show AW _ _ _ _ _
  obtain ⟨A, hA⟩ : ∃ A, A = (ilt w 1 || ilt 8 w || ilt sz 32 || ilt 4096 sz || ilt t 1 || ilt 1099511627776 t) := ⟨_, rfl⟩
  obtain ⟨B, hB⟩ : ∃ B, B = (ilt q 0 || ilt 2 q) := ⟨_, rfl⟩
  have hE : newE w sz q t = if A then 34 else if B then 17 else 0 := by unfold newE; rw [← hA, ← hB]
  simp [hn]
  rw [kseq_normal, AW_seq]
  refine AW_cut (Q' := fun e fr' h' => h' = h ∧ ((e = .ret ∧ A = true ∧ fr'.get 8 = some .nilptr ∧ fr'.get 9 = some (i64 34)) ∨ (e = .normal ∧ A = false ∧ fr'.n = 60 ∧ fr'.get 0 = some (i64 w) ∧ fr'.get 1 = some (i64 sz) ∧ fr'.get 2 = some (i64 q) ∧ fr'.get 3 = some (i64 t)))) ?_ ?_
  · clear hE
    simp [hn, h0, kseq_normal]
    repeat' (first | refine Br.mk (fun hb => ?_) (fun hb => ?_) | simp [*, kseq_normal])
  rintro e fr1 h1' ⟨rfl, ⟨rfl, hAt, k8, k9⟩ | ⟨rfl, hAf, hn1, h01, h11, h21, h31⟩⟩
  · simp [k8, k9, hE, hAt]
    exact Pres.refl _
  clear hn h0 h1 h2 h3
  rw [kseq_normal, AW_seq]
  refine AW_cut (Q' := fun e fr' h' => h' = h1' ∧ ((e = .ret ∧ B = true ∧ fr'.get 8 = some .nilptr ∧ fr'.get 9 = some (i64 17)) ∨ (e = .normal ∧ B = false ∧ fr'.n = 60 ∧ fr'.get 0 = some (i64 w) ∧ fr'.get 1 = some (i64 sz) ∧ fr'.get 2 = some (i64 q) ∧ fr'.get 3 = some (i64 t)))) ?_ ?_
  · clear hE hA
    simp [hn1, h21, kseq_normal]
    repeat' (first | refine Br.mk (fun hb => ?_) (fun hb => ?_) | simp [*, kseq_normal])
  rintro e fr2 h2' ⟨rfl, ⟨rfl, hBt, k8, k9⟩ | ⟨rfl, hBf, hn2, h02, h12, h22, h32⟩⟩
  · simp [k8, k9, hE, hAf, hBt]
    exact Pres.refl _
  clear hn1 h01 h11 h21 h31
  rw [kseq_normal]
  have hE0 : newE w sz q t = 0 := by rw [hE, hAf, hBf]; rfl
  have hw : 1 ≤ w ∧ w ≤ 8 := by
    rw [hA] at hAf
    simp only [Bool.or_eq_false_iff, ilt_false] at hAf
    omega
  obtain ⟨n, rfl⟩ := Int.eq_ofNat_of_zero_le (show 0 ≤ w by omega)
  obtain ⟨C, hC⟩ : ∃ C : AV → List AV, C = fun x => [x, i64 sz, i64 q, i64 t, i64 0, .nilsl, i64 0, i64 0, i64 0, i64 0, .bool false, i64 1, i64 0, .nilsl, .nilsl] := ⟨_, rfl⟩
  have hC0 : ∀ x, (C x)[0]? = some x := fun x => by rw [hC]; rfl
  have hCs : ∀ x y, y.cells = [y] → allOne y = true → stc Try.prog 49 (.cells 60 (C x) (some 0)) 0 y = some (.cells 60 (C y) (some 0)) := fun x y h1 h2 => by rw [hC]; exact stc_one sz49 (by simp) h1 h2
  simp [hn2, h02, h12, h22, h32, pb60_new, kseq_normal]
  refine AW_cut_x 0 (fun fr' h' => fr'.get 10 = some (.ptr h2'.next 0) ∧ ∃ x, h'.get h2'.next = .cells 60 (C x) (some 0) ∧ h2'.next < h'.next ∧ Pres h2' h' ∧ Gw h' 4 1 x (List.replicate n [.bool true]) ∧ ∀ c, blk x = some c → h2'.next < c) ?_ ?_
  · refine AW_loop_fr (fun m fr' h' => ∃ k x, m = n - k ∧ k ≤ n ∧ fr'.get 11 = some (i64 (k : Nat)) ∧ h'.get h2'.next = .cells 60 (C x) (some 0) ∧ h2'.next < h'.next ∧ Pres h2' h' ∧ Gw h' 4 1 x (List.replicate k [.bool true]) ∧ ∀ c, blk x = some c → h2'.next < c) n
      ⟨0, .nilsl, by simp, by omega, by simp, by simp [hC], by simp, (Pres.refl h2').new _, Gw.nil _ _ _, fun c hc => by simp [blk] at hc⟩ ?_
    rintro J hJ m fr' h' ⟨k, x, rfl, hk, h11, hcl, hlt, hp, hg, hxb⟩ hfr
    have hn' : fr'.n = 60 := hfr.1.trans (by simp [hn2])
    have h0' : fr'.get 0 = some (i64 (n : Int)) := (hfr.2 0 (by kernel_rfl)).trans (by simp [h02])
    have h10 : fr'.get 10 = some (.ptr h2'.next 0) := (hfr.2 10 (by kernel_rfl)).trans (by simp)
    clear hfr
    simp [hn', h0', h10, h11, kseq_normal]
    refine Br.mk (fun hb => ?_) (fun hb => ?_)
    · have hkn : k < n := by rw [ilt_true] at hb; omega
      obtain ⟨y, h3, hap, hgy, hgr⟩ := app1 (h := h') (t := 49) (v := .bool true) hg sl49 sz4 by4 z4 rfl (by omega) rfl (by omega) (by simp; omega)
      have hap : aappend Try.prog (h'.new (.cells 4 [.bool true] (some 0))) [49, 49] [x, .sl h'.next 0 0 1 (.at_ 1)] = some (y, h3) := hap
      obtain ⟨hy1, hy2, hy3⟩ := Sl.one hgy.sl
      have hc3 : h3.get h2'.next = .cells 60 (C x) (some 0) := (hgr.keep _ hlt fun e => by have := hxb _ e; omega).trans hcl
      have hyb : ∀ c, blk y = some c → h2'.next < c := fun c hc => by
        rcases hgr.new c hc with e | e
        · exact hxb c e
        · omega
      have hp3 : Pres h2' h3 := ⟨Nat.le_trans hp.1 hgr.next, fun c hc => (hgr.keep c (Nat.lt_of_lt_of_le hc hp.1) fun e => by have := hxb c e; omega).trans (hp.2 c hc)⟩
      simp [hn', h0', h10, h11, hcl, hC0, pbs49_1, hap, hc3, hCs x y hy1 hy3, kseq_normal]
      rw [kloop_normal]
      refine ⟨n - (k + 1), by omega, hJ _ _ _ ⟨k + 1, y, rfl, hkn, by simp [wrap_nat k (by omega)], by simp, by simp; exact Nat.lt_of_lt_of_le hlt hgr.next, hp3.set (Nat.le_refl _) _, ?_, hyb⟩⟩
      rw [List.replicate_succ']
      exact Gw.keep (h := h3) hgy (by simp) fun c hc _ => get_ne _ fun e => by have := hyb c hc; omega
    · have : k = n := by rw [ilt_false] at hb; omega
      subst this
      simp [hn', h10, kseq_normal]
      exact ⟨x, hcl, hlt, hp, hg, hxb⟩
  rintro fr5 h5 ⟨h105, x, hcl, hlt, hp, hg, hxb⟩ hfr
  have hn5 : fr5.n = 60 := hfr.1.trans (by simp [hn2])
  clear hfr
  rw [kblock_exit_eq]
  simp [hn5, h105, hE0, kseq_normal]
  refine ⟨hp, ?_⟩
  obtain ⟨hg1, hg2⟩ := hg
  rcases hg2 with ⟨_, e⟩ | ⟨e, _⟩ | ⟨b, lb, cs, m, hb, rfl, hgb, hl, hm, ht⟩
  · have := congrArg List.length e; simp at this; omega
  · have := congrArg List.length e; simp at this; omega
  have hbb := hxb b rfl
  have hflat : ∀ k, (List.replicate k [(.bool true : AV)]).flatten = List.replicate k (.bool true) := fun k => by
    induction k with
    | zero => rfl
    | succ k ih => rw [List.replicate_succ, List.flatten_cons, ih]; rfl
  rw [hflat] at ht
  refine ⟨⟨b, .sl b 0 0 (List.replicate n [(.bool true : AV)]).length (.op 1 lb), .nilsl, .nilsl, .nilsl, []⟩, ⟨by rw [hcl, hC]; rfl, hlt, ?_, Gw.nil _ _ _, .nil, Sl.nil _ _, Gw.nil _ _ _, fun c hc => ?_⟩, fun c hc => ?_, rfl, rfl⟩
  · exact ⟨0, .op 1 lb, cs, by simp [newS], hb, hgb, by simp [newS] at hm ⊢; omega, by simp [newS] at ht ⊢; exact ht, rfl⟩
  · rcases hc with ⟨row, hm, _⟩ | hc
    · cases hm
    · simp [blk] at hc
  · rcases hc with hc | hc | hc | hc
    · subst hc; exact ⟨Nat.le_refl _, hlt⟩
    · have hc : c = b := hc
      subst hc; exact ⟨by omega, hb⟩
    · simp [blk] at hc
    · simp [blk] at hc
end Go.Eng.L35
/- Law 35: what stands between the calls; both acknowledge alike. -/
namespace Go.Eng.L35
open Go.Proofs Go.Eng
/-- What is behind a unit. -/
def nxt (u : U) : Int × Int := if u.last then (u.msg + 1, 0) else (u.msg, u.frag + 1)
def lt2 (a b : Int × Int) : Prop := a.1 < b.1 ∨ (a.1 = b.1 ∧ a.2 < b.2)
structure UnitsOk (M : Int) (us : List U) : Prop where
  ch : ∀ (i : Nat) (u w : U), us[i]? = some u → us[i + 1]? = some w → (w.msg, w.frag) = nxt u
  ub : ∀ u ∈ us, 1 ≤ u.msg ∧ u.msg ≤ M ∧ 0 ≤ u.frag ∧ u.frag ≤ 5000
  la : ∀ u, us.getLast? = some u → u.last = true ∧ u.msg = M
  pre : ∀ (i j : Nat) (u w : U), i < j → us[i]? = some u → us[j]? = some w → 0 ≤ w.at_ → 0 ≤ u.at_
  ud : ∀ u ∈ us, u.data.length ≤ 4096
structure Inv (k sz : Nat) (s : S) : Prop where
  up1 : 1 ≤ s.up.length
  up8 : s.up.length ≤ 8
  size : s.size = 24 + (sz : Int)
  sz1 : 8 ≤ sz
  sz2 : sz ≤ 4072
  q : s.quality = 0 ∨ s.quality = 1 ∨ s.quality = 2
  ul : s.units.length ≤ 600 * k
  al : s.acks.length ≤ k
  aw : ∀ a ∈ s.acks, 0 ≤ a.1 ∧ a.1 < (s.up.length : Int)
  t0 : 0 ≤ s.turn
  t1 : s.turn ≤ 8 * (k : Int)
  pt : s.part.length ≤ 4096
  us : UnitsOk s.sent s.units
  s0 : 0 ≤ s.sent
  s1 : s.sent ≤ 1099511627776
theorem lt_nxt {u : U} : lt2 (u.msg, u.frag) (nxt u) := by
  unfold nxt lt2
  split
  · left; simp; omega
  · right; simp; omega
theorem lt2_trans {a b c : Int × Int} (h1 : lt2 a b) (h2 : lt2 b c) : lt2 a c := by
  unfold lt2 at *; omega
theorem lt2_irr {a b : Int × Int} (h1 : lt2 a b) (h2 : a = b) : False := by
  subst h2; unfold lt2 at h1; omega
/-- Units stand in order. -/
theorem UnitsOk.mono {M : Int} {us : List U} (h : UnitsOk M us) : ∀ (d i : Nat) (u w : U), us[i]? = some u → us[i + d + 1]? = some w → lt2 (u.msg, u.frag) (w.msg, w.frag)
  | 0, i, u, w, hu, hw => by rw [h.ch i u w hu hw]; exact lt_nxt
  | d + 1, i, u, w, hu, hw => by
    have hlt : i + d + 1 < us.length := by have := (List.getElem?_eq_some_iff.1 hw).1; omega
    have h1 := UnitsOk.mono h d i u _ hu (List.getElem?_eq_getElem hlt)
    have h2 := h.ch (i + d + 1) _ w (List.getElem?_eq_getElem hlt) (by rw [show i + d + 1 + 1 = i + (d + 1) + 1 by omega]; exact hw)
    exact lt2_trans h1 (by rw [h2]; exact lt_nxt)
theorem UnitsOk.lt {M : Int} {us : List U} (h : UnitsOk M us) {i j : Nat} {u w : U} (hij : i < j) (hu : us[i]? = some u) (hw : us[j]? = some w) : lt2 (u.msg, u.frag) (w.msg, w.frag) :=
  h.mono (j - i - 1) i u w hu (by rw [show i + (j - i - 1) + 1 = j by omega]; exact hw)
theorem matchU_iff {M : Int} {us : List U} (h : UnitsOk M us) (hM : M ≤ 1099511627776) {u : U} (hu : u ∈ us) (m k : Int) : matchU m k u = true ↔ (m, k) = nxt u := by
  obtain ⟨h1, h2, h3, h4⟩ := h.ub u hu
  unfold matchU nxt
  rw [wrap_in (by omega), wrap_in (by omega)]
  split <;> simp [ieq_true]
theorem behind_iff (m k m' k' : Int) : behindB m k m' k' = true ↔ lt2 (m', k') (m, k) := by
  unfold behindB lt2
  simp only [Bool.or_eq_true, Bool.and_eq_true, ilt_true, ieq_true]
  omega
theorem takeWhile_get {α : Type} (p : α → Bool) : ∀ (l : List α) (i : Nat), i < (l.takeWhile p).length → ∃ a, l[i]? = some a ∧ p a = true
  | [], i, hi => by simp at hi
  | a :: l, i, hi => by
    rw [List.takeWhile_cons] at hi
    split at hi
    · rename_i ha
      cases i with
      | zero => exact ⟨a, rfl, ha⟩
      | succ i => obtain ⟨b, h1, h2⟩ := takeWhile_get p l i (by simpa using hi); exact ⟨b, by simpa using h1, h2⟩
    · simp at hi
theorem takeWhile_stop {α : Type} (p : α → Bool) : ∀ (l : List α) (a : α), l[(l.takeWhile p).length]? = some a → p a = false
  | [], a, h => by simp at h
  | b :: l, a, h => by
    rw [List.takeWhile_cons] at h
    split at h
    · exact takeWhile_stop p l a (by simpa using h)
    · rename_i hb; simp at h; subst h; simpa using hb
/-- Both links take an acknowledgment alike. -/
theorem ack_same {s : S} (h : UnitsOk s.sent s.units) (hM : s.sent ≤ 1099511627776) (m k : Int) : ackP s m k = ackR s m k := by
  have hR : ackR s m k = (match (s.units.takeWhile (ackd m k)).length with
    | 0 => s
    | n + 1 => match s.units[n]? with
      | some u => if matchU m k u then ackS s (n + 1) else s
      | none => s) := by
    unfold ackR
    cases (s.units.takeWhile (ackd m k)).length with
    | zero => rfl
    | succ n =>
      simp only
      cases s.units[n]? with
      | none => rfl
      | some u =>
        have : (ieq m (if u.last then IntKind.i64.wrap (u.msg + 1) else u.msg) && ieq k (if u.last then 0 else IntKind.i64.wrap (u.frag + 1))) = matchU m k u := by
          unfold matchU; cases u.last <;> rfl
        simp only [this]
  rw [hR]
  unfold ackP
  cases hf : s.units.findIdx? (matchU m k) with
  | none =>
    rw [List.findIdx?_eq_none_iff] at hf
    cases (s.units.takeWhile (ackd m k)).length with
    | zero => rfl
    | succ n =>
      simp only
      cases hu : s.units[n]? with
      | none => rfl
      | some u => simp only [hf u (List.mem_of_getElem? hu)]; rfl
  | some i =>
    obtain ⟨hi, hm, hno⟩ := List.findIdx?_eq_some_iff_getElem.1 hf
    have hgi : s.units[i]? = some s.units[i] := List.getElem?_eq_getElem hi
    have hmi := (matchU_iff h hM (List.getElem_mem hi) m k).1 hm
    obtain ⟨n, hn⟩ : ∃ n, n = (s.units.takeWhile (ackd m k)).length := ⟨_, rfl⟩
    have hget := takeWhile_get (ackd m k) s.units
    have hstop := takeWhile_stop (ackd m k) s.units
    rw [← hn] at hget hstop ⊢
    have hbe : ∀ j u, j ≤ i → s.units[j]? = some u → behindB m k u.msg u.frag = true := fun j u hj hu => by
      rw [behind_iff, hmi]
      by_cases e : j = i
      · subst e; rw [hgi] at hu; cases hu; exact lt_nxt
      · exact lt2_trans (h.lt (by omega) hu hgi) lt_nxt
    -- no unit at or behind i + 1 stands ahead of the acknowledgment
    have hni : n ≤ i + 1 := by
      by_cases hh : n ≤ i + 1
      · exact hh
      · exfalso
        obtain ⟨u, hu, hpu⟩ := hget (i + 1) (by omega)
        unfold ackd at hpu
        rw [Bool.and_eq_true, behind_iff, hmi, ← h.ch i _ u hgi hu] at hpu
        exact lt2_irr hpu.2 rfl
    simp only [hgi]
    cases hat : ilt s.units[i].at_ 0 with
    | false =>
      have hnn : n = i + 1 := by
        by_cases hh : n = i + 1
        · exact hh
        · exfalso
          have hlt : n < s.units.length := by omega
          have := hstop s.units[n] (List.getElem?_eq_getElem hlt)
          have hb := hbe n _ (by omega) (List.getElem?_eq_getElem hlt)
          have hat2 : 0 ≤ s.units[n].at_ := by
            rw [ilt_false] at hat
            by_cases e : n = i
            · subst e; exact hat
            · exact h.pre n i _ _ (by omega) (List.getElem?_eq_getElem hlt) hgi hat
          unfold ackd at this
          rw [hb, ilt_false.2 hat2] at this
          simp at this
      rw [hnn]
      simp only [hgi, hm]
      rfl
    | true =>
      simp only [if_true]
      cases n with
      | zero => rfl
      | succ n =>
        have hlt : n < s.units.length := by omega
        simp only [List.getElem?_eq_getElem hlt]
        have hne : n ≠ i := fun e => by
          subst e
          obtain ⟨u, hu, hpu⟩ := hget n (by omega)
          rw [hgi] at hu; cases hu
          unfold ackd at hpu
          rw [hat] at hpu; simp at hpu
        have : matchU m k s.units[n] = false := by simpa using hno n (by omega)
        rw [this]; rfl
end Go.Eng.L35
