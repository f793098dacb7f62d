/- Law 41: the reference's Match. -/
import Derived.Test.YtcjgagkkanokjacGreatDoorB8
namespace Go.Eng.L41
open Go.Proofs Go.Eng
/-- What is fresh. -/
def Fresh (h : AHeap) (x : AV) : Prop := ∀ b, blk x = some b → h.next ≤ b
theorem Pres.grown {h h1 h' : AHeap} {x x' : AV} (hp : Pres h h1) (hf : Fresh h x) (hg : Grown h1 x h' x') : Pres h h' ∧ Fresh h x' := by
  refine ⟨⟨Nat.le_trans hp.1 hg.next, fun c hc => (hg.keep c (Nat.lt_of_lt_of_le hc hp.1) fun e => ?_).trans (hp.2 c hc)⟩, fun b hb => ?_⟩
  · have := hf c e; omega
  · rcases hg.new b hb with e | e
    · exact hf b e
    · have := hp.1; omega
/-- One more element; a star behind a star is left out. -/
def push (l : List El) (e : El) : List El := if e.1 && e.2 == 42 && l.getLast? == some e then l else l ++ [e]
def partEls (p : Prt) : List El := p.2.map fun c => (p.1 == 4, c)
def elsOf (W : List Prt) : List El := (W.flatMap partEls).foldl push []
theorem push_len (l : List El) (e : El) : (push l e).length ≤ l.length + 1 := by
  unfold push; split
  · omega
  · simp
theorem foldl_push_len : ∀ (k l : List El), (k.foldl push l).length ≤ l.length + k.length
  | [], l => by simp
  | e :: k, l => by
    have := foldl_push_len k (push l e)
    have := push_len l e
    simp only [List.foldl_cons, List.length_cons]
    omega
theorem flat_len : ∀ (V : List Prt), (∀ p ∈ V, p.2.length ≤ 40) → (V.flatMap partEls).length ≤ 40 * V.length
  | [], _ => by simp
  | p :: V, h => by
    have := flat_len V fun q hq => h q (by simp [hq])
    have := h p (by simp)
    simp only [List.flatMap_cons, List.length_append, List.length_cons, partEls, List.length_map] at *
    omega
theorem elsOf_len (V : List Prt) (h : ∀ p ∈ V, p.2.length ≤ 40) : (elsOf V).length ≤ 40 * V.length := by
  have := foldl_push_len (V.flatMap partEls) []
  have := flat_len V h
  unfold elsOf
  simp only [List.length_nil] at *
  omega
theorem elsOf_take {W : List Prt} {i : Nat} (hi : i < W.length) : elsOf (W.take (i + 1)) = (partEls W[i]).foldl push (elsOf (W.take i)) := by
  unfold elsOf
  rw [List.take_add_one, List.getElem?_eq_getElem hi, List.flatMap_append, List.foldl_append]
  simp
theorem eq50 (x y : Operand) (a b : El) : bin2 Tryz.prog .eql 50 x y (some (.agg (ec a))) (some (.agg (ec b))) = some (.bool (a == b)) := by
  have h : bin2 Tryz.prog .eql 50 x y (some (.agg (ec a))) (some (.agg (ec b))) = some (.bool (a.1 == b.1 && (a.2.toNat : Int) == (b.2.toNat : Int))) := by
    have hs : eqSt Tryz.prog 50 = true := by kernel_rfl
    simp [bin2, okEq, pagg, ec, byteAV, hs]
  have h2 : (a.1 == b.1 && (a.2.toNat : Int) == (b.2.toNat : Int)) = (a == b) := by
    rw [Bool.eq_iff_iff]
    obtain ⟨a1, a2⟩ := a
    obtain ⟨b1, b2⟩ := b
    simp only [Bool.and_eq_true, beq_iff_eq, Prod.mk.injEq]
    constructor
    · rintro ⟨u, v⟩; exact ⟨u, UInt8.toNat_inj.1 (by omega)⟩
    · rintro ⟨u, v⟩; exact ⟨u, by rw [v]⟩
  rw [h, h2]
@[simp] theorem ec_len (e : El) : (ec e).length = 2 := rfl
@[simp] theorem ec_take (e : El) : List.take 2 (ec e) = ec e := rfl
@[simp] theorem ec_0 (e : El) : (ec e)[0]? = some (.bool e.1) := rfl
@[simp] theorem ec_1 (e : El) : (ec e)[1]? = some (byteAV e.2) := rfl
theorem Gf.last {h : AHeap} {y : AV} {l : List El} {z : El} (hg : Gf h 50 2 y ((l ++ [z]).map ec)) : ∃ b o, pindexAddr Tryz.prog 48 y (.int .i64 (l.length : Int)) = some (.ptr b o) ∧ atCells Tryz.prog 50 (h.get b) o = some (.agg (ec z)) := by
  obtain ⟨b, o, h0, h1, h2, h3, _⟩ := Sl.at_blk hg.sl sl48 sz50 l.length (by simp)
  exact ⟨b, o, h1, by simpa using h3 ag50⟩
theorem bd50 (w : Bool) (c : UInt8) : pbuild Tryz.prog 50 [(0, .bool w), (1, byteAV c)] = some (.agg (ec (w, c))) := by kernel_rfl
@[simp] theorem stc50 (cs : List AV) (hc : cs.length = 2) (e : El) : stc Tryz.prog 50 (.cells 50 cs (some 0)) 0 (.agg (ec e)) = some (.cells 50 (ec e) (some 0)) := by
  rw [stc_all sz50 hc rfl (by simp [ec, byteAV, AV.one])]; rfl
theorem pbs48 (e : El) : pbs Tryz.prog 48 1 [(0, .agg (ec e))] = some (50, ec e, .sl 1 1) := by
  obtain ⟨w, c⟩ := e
  kernel_rfl
/-- An append of one element. -/
theorem app48 {h : AHeap} {y : AV} {l : List El} {e : El} (hg : Gf h 50 2 y (l.map ec)) (hl : l.length ≤ 100000) {b : Nat} (hb : b < h.next) (hc : h.get b = .cells 50 (ec e) (some 0)) :
    ∃ y' h', aappend Tryz.prog h [48, 48] [y, .sl b 0 0 1 (.at_ 1)] = some (y', h') ∧ Gf h' 50 2 y' ((l ++ [e]).map ec) ∧ Grown h y h' y' := by
  have hsrc : srcCells Tryz.prog h 48 (.sl b 0 0 1 (.at_ 1)) 2 = some (([ec e] : List (List AV)).length, ([ec e] : List (List AV)).flatten) := by
    simp [srcCells, sl48, hc, ec]
  obtain ⟨y', h', h1, h2, h3⟩ := hg.append sl48 sz50 by50 z50 rfl (by omega) hsrc (fun a ha => by simp at ha; subst ha; rfl) (by simp; omega) (by simp; omega)
  exact ⟨y', h', h1, by simpa using h2, h3⟩
/-- No part is a variable. -/
def kOk (W : List Prt) : Prop := ∀ p ∈ W, p.1 ≠ 2 ∧ p.1 ≠ 3
variable [O41]
theorem rmatch_sp (h : AHeap) (x : AV) (W : List Prt) (s : List UInt8) (hw : Wd h x W) (hs : s.length ≤ 60) (hW : W.length ≤ 12) (ht : ∀ p ∈ W, p.2.length ≤ 40) :
    Ca Tryz.prog 9 [x, .str s] h fun r h' => Pres h h' ∧ BIs r (kOk W ∧ fitsL (elsOf W) s true = true) := by
  refine ci Tryz.func9 rfl (by decide) ?_
  intro fr hn hg
  replace hn : fr.n = 85 := hn
  have h0 : fr.get 0 = some x := hg 0 (by simp)
  have h1 : fr.get 1 = some (.str s) := hg 1 (by simp)
  clear hg
  show AW _ _ _ _ _
  simp [hn, h0, h1, hw.len30, kseq_normal]
  refine AW_loop_fr (fun m fr' h' => ∃ i y, m = W.length - i ∧ i ≤ W.length ∧ fr'.get 6 = some (.int .i64 (i : Nat)) ∧ fr'.get 5 = some y ∧ Gf h' 50 2 y ((elsOf (W.take i)).map ec) ∧ Fresh h y ∧ Pres h h' ∧ ∀ i' p, i' < i → W[i']? = some p → p.1 ≠ 2 ∧ p.1 ≠ 3) W.length
    ⟨0, .nilsl, by simp, by omega, by simp, by simp [hn], Gf.nil _ _ _, fun b hb => by simp [blk] at hb, Pres.refl h, by simp⟩ ?_
  rintro J hJ m fr' h' ⟨i, y, rfl, hi, h6, h5, hgf, hfy, hp, hks⟩ hfr
  have hn' : fr'.n = 85 := hfr.1.trans (by simp [hn])
  have h0' : fr'.get 0 = some x := (hfr.2 0 (by kernel_rfl)).trans (by simp [h0])
  have h1' : fr'.get 1 = some (.str s) := (hfr.2 1 (by kernel_rfl)).trans (by simp [h1])
  clear hfr
  simp [hn', h0', h6, hw.len30, kseq_normal]
  refine Br.mk (fun hb => ?_) (fun hb => ?_)
  · have hi : i < W.length := by rw [ilt_true] at hb; omega
    obtain ⟨b, o, e1, e2, e3⟩ := (hw.pres hp).at30 i hi
    obtain ⟨p, hpi⟩ : ∃ p, p = W[i] := ⟨_, rfl⟩
    have hpi' : W[i]? = some p := by rw [hpi]; simp [hi]
    have hnot : ¬ (p.1 ≠ 2 ∧ p.1 ≠ 3) → ¬ kOk W := fun hx hm => hx (hm p (List.mem_of_getElem? hpi'))
    rw [← hpi] at e2 e3
    by_cases k2 : p.1 = 2
    · have q2 : ieq p.1 2 = true := by rw [ieq_true]; exact k2
      simp [hn', h0', h6, e1, e2, q2, kseq_normal]
      exact ⟨hp, BIs.mk (by simp; exact fun hall => (hnot (by simp [k2]) hall).elim)⟩
    have q2 : ieq p.1 2 = false := by rw [ieq_false]; exact k2
    by_cases k3 : p.1 = 3
    · have q3 : ieq p.1 3 = true := by rw [ieq_true]; exact k3
      simp [hn', h0', h6, e1, e2, q2, q3, kseq_normal]
      exact ⟨hp, BIs.mk (by simp; exact fun hall => (hnot (by simp [k3]) hall).elim)⟩
    have q3 : ieq p.1 3 = false := by rw [ieq_false]; exact k3
    have q4 : ieq p.1 4 = (p.1 == 4) := rfl
    simp [hn', h0', h6, e1, e2, q2, q3, kseq_normal]
    obtain ⟨w, hw4⟩ : ∃ w, w = (p.1 == 4) := ⟨_, rfl⟩
    have hpl : p.2.length ≤ 40 := ht p (List.mem_of_getElem? hpi')
    have hl0 : (elsOf (W.take i)).length ≤ 480 := by
      have := elsOf_len (W.take i) fun q hq => ht q (List.mem_of_mem_take hq)
      rw [List.length_take] at this
      omega
    refine AW_loop_fr (fun m fr2 h2 => ∃ k l y2, m = p.2.length - k ∧ k ≤ p.2.length ∧ l = ((partEls p).take k).foldl push (elsOf (W.take i)) ∧ fr2.get 8 = some (.int .i64 (k : Nat)) ∧ fr2.get 5 = some y2 ∧ Gf h2 50 2 y2 (l.map ec) ∧ Fresh h y2 ∧ Pres h h2) p.2.length
      ⟨0, elsOf (W.take i), y, by simp, by omega, by simp, by simp, by simp [h5], hgf, hfy, hp⟩ ?_
    rintro J2 hJ2 m fr2 h2 ⟨k, l, y2, rfl, hk, hl, h8, h5b, hgf2, hfy2, hp2⟩ hfr2
    have hn2 : fr2.n = 85 := hfr2.1.trans (by simp [hn'])
    have h0b : fr2.get 0 = some x := (hfr2.2 0 (by kernel_rfl)).trans (by simp [h0'])
    have h1b : fr2.get 1 = some (.str s) := (hfr2.2 1 (by kernel_rfl)).trans (by simp [h1'])
    have h6b : fr2.get 6 = some (.int .i64 (i : Nat)) := (hfr2.2 6 (by kernel_rfl)).trans (by simp [h6])
    have h7b : fr2.get 7 = some (.bool w) := (hfr2.2 7 (by kernel_rfl)).trans (by simp [hw4, q4])
    clear hfr2
    obtain ⟨b', o', f1, f2, f3⟩ := (hw.pres hp2).at30 i hi
    rw [← hpi] at f2 f3
    simp [hn2, h0b, h6b, h8, f1, f3, kseq_normal]
    refine Br.mk (fun hb => ?_) (fun hb => ?_)
    · have hk : k < p.2.length := by rw [ilt_true] at hb; omega
      obtain ⟨c, hc⟩ : ∃ c, p.2[k]? = some c := ⟨p.2[k], by simp [hk]⟩
      have hix : pindex Tryz.prog 9 (.str p.2) (.int .i64 (k : Int)) = some (byteAV c) := by rw [ix9, hc]; rfl
      obtain ⟨h3, eh3⟩ : ∃ h3, h3 = (h2.new (.cells 50 [.bool false, .int .u8 0] (some 0))).set h2.next (.cells 50 (ec (w, c)) (some 0)) := ⟨_, rfl⟩
      have hp3 : Pres h2 h3 := by rw [eh3]; exact ((Pres.refl h2).new _).set (Nat.le_refl _) _
      have hg3 : h3.get h2.next = .cells 50 (ec (w, c)) (some 0) := by rw [eh3]; simp
      have hnx3 : h3.next = h2.next + 1 := by rw [eh3]; simp
      have hgf3 := hgf2.pres hp3
      have hpk : (partEls p).take (k + 1) = (partEls p).take k ++ [(w, c)] := by
        have hq : (partEls p)[k]? = some (w, c) := by simp [partEls, hc, hw4]
        rw [List.take_add_one, hq]; rfl
      have hl2 : ((partEls p).take (k + 1)).foldl push (elsOf (W.take i)) = push l (w, c) := by
        rw [hpk, List.foldl_append, ← hl]; rfl
      have hll : l.length ≤ 520 := by
        have := foldl_push_len ((partEls p).take k) (elsOf (W.take i))
        rw [← hl, List.length_take] at this
        omega
      simp [hn2, h0b, h6b, h7b, h8, h5b, f1, f3, hix, bd50, ← eh3, hgf3.sl.len, kseq_normal]
      obtain ⟨mg, hmg⟩ : ∃ mg, mg = ((w && c == 42) && l.getLast? == some (w, c)) := ⟨_, rfl⟩
      refine AW_cut_n (fun fr4 h4 => h4 = h3 ∧ fr4.n = 85 ∧ fr4.get 0 = some x ∧ fr4.get 1 = some (.str s) ∧ fr4.get 5 = some y2 ∧ fr4.get 6 = some (.int .i64 (i : Nat)) ∧ fr4.get 7 = some (.bool w) ∧ fr4.get 8 = some (.int .i64 (k : Nat)) ∧ fr4.get 9 = some (.ptr h2.next 0) ∧ fr4.get 77 = some (.bool mg)) (AW_region_t _ _ _ _ _ (by kernel_rfl) ?_) ?_
      · cases hw' : w with
        | false =>
          rw [hw'] at h7b hg3
          simp [hn2, h0b, h1b, h5b, h6b, h7b, h8, hg3, hmg, hw']
        | true =>
          rw [hw'] at h7b hg3
          have e42 := b42 c 42 (k := 42) rfl
          cases hc42 : (c == 42) with
          | false =>
            rw [hc42] at e42
            simp [hn2, h0b, h1b, h5b, h6b, h7b, h8, hg3, hmg, hw', byteAV, e42, hc42]
            try simpa using hc42
          | true =>
            rw [hc42] at e42
            rcases List.eq_nil_or_concat l with hnil | ⟨l', z, hcon⟩
            · have e0 : ilt 0 (l.length : Int) = false := by rw [ilt_false, hnil]; simp
              subst hnil
              simp [hn2, h0b, h1b, h5b, h6b, h7b, h8, hg3, hmg, hw', byteAV, e42, hc42, show ilt 0 0 = false by rfl]
            · rw [List.concat_eq_append] at hcon
              subst hcon
              obtain ⟨b7, o7, u1, u2⟩ := Gf.last hgf3
              have e0 : ilt 0 ((l'.length : Int) + 1) = true := by rw [ilt_true]; omega
              simp [hn2, h0b, h1b, h5b, h6b, h7b, h8, hg3, hmg, hw', byteAV, e42, hc42, e0, show IntKind.i64.wrap (l'.length : Int) = (l'.length : Int) from wrap_in (by simp at hll; omega), u1, u2, eq50]
              try exact eq_comm
      rintro fr4 h4 ⟨rfl, hn4, m0, m1, m5, m6, m7, m8, m9, m77⟩
      simp [m77, kseq_normal]
      refine Br.mk (fun hm => ?_) (fun hm => ?_)
      · have hpush : push l (w, c) = l := by
          unfold push
          rw [if_pos (by simpa [← hmg] using hm)]
        simp [hn4, m8, kseq_normal, wrap_nat k (by omega)]
        rw [kloop_normal]
        exact ⟨p.2.length - (k + 1), by omega, hJ2 _ _ _ ⟨k + 1, l, y2, rfl, by omega, by rw [hl2, hpush], by simp, by simp [m5], hgf3, hfy2, hp2.trans hp3⟩⟩
      · have hpush : push l (w, c) = l ++ [(w, c)] := by
          unfold push
          rw [if_neg (by simp only [← hmg]; rw [hm]; simp)]
        obtain ⟨y5, h5', a1, a2, a3⟩ := app48 (h := h4.new (.cells 50 (ec (w, c)) (some 0))) (y := y2) (l := l) (e := (w, c)) (hgf3.pres ((Pres.refl h4).new _)) (by omega) (b := h4.next) (by simp) (by simp)
        obtain ⟨b1, b2⟩ := Pres.grown ((hp2.trans hp3).new _) hfy2 a3
        simp [hn4, m5, m8, m9, hg3, kseq_normal, pbs48, a1, wrap_nat k (by omega)]
        rw [kloop_normal]
        exact ⟨p.2.length - (k + 1), by omega, hJ2 _ _ _ ⟨k + 1, l ++ [(w, c)], y5, rfl, by omega, by rw [hl2, hpush], by simp, by simp, a2, b2, b1⟩⟩
    · have hkk : k = p.2.length := by rw [ilt_false] at hb; omega
      subst hkk
      have hfull : (partEls p).take p.2.length = partEls p := List.take_of_length_le (by simp [partEls])
      rw [hfull] at hl
      simp [hn2, h6b, kseq_normal, wrap_nat i (by omega)]
      rw [kloop_normal]
      refine ⟨W.length - (i + 1), by omega, hJ _ _ _ ⟨i + 1, y2, rfl, by omega, by simp, by simp [h5b], ?_, hfy2, hp2, fun i' q b1 b2 => ?_⟩⟩
      · rw [elsOf_take hi, ← hpi, ← hl]; exact hgf2
      · by_cases e : i' = i
        · subst e; rw [hpi'] at b2; cases b2; exact ⟨k2, k3⟩
        · exact hks i' q (by omega) b2
  · have : i = W.length := by rw [ilt_false] at hb; omega
    subst this
    rw [List.take_length] at hgf
    simp [hn', h5, h1', kseq_normal]
    refine Ca.mono (fits_sp h' (elsOf W) y s true hgf.sl hs (by have := elsOf_len W ht; omega)) ?_
    rintro r h2 ⟨rfl, rfl⟩
    simp [hn', kseq_normal]
    refine ⟨hp, BIs.mk ?_⟩
    constructor
    · intro hr
      refine ⟨fun p hp => ?_, hr⟩
      obtain ⟨i', hi', rfl⟩ := List.getElem_of_mem hp
      exact hks i' _ hi' (by simp [hi'])
    · exact fun hm => hm.2
end Go.Eng.L41
