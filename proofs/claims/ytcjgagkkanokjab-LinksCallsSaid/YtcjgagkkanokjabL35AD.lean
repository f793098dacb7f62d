/- Law 35: what stands is kept by each call. -/
import Derived.Test.YtcjgagkkanokjabL35AB
namespace Go.Eng.L35
open Go.Proofs Go.Eng
theorem UnitsOk.drop {M : Int} {us : List U} (h : UnitsOk M us) (n : Nat) : UnitsOk M (us.drop n) := by
  refine ⟨fun i u w hu hw => ?_, fun u hu => h.ub u (List.mem_of_mem_drop hu), fun u hu => ?_, fun i j u w hij hu hw => ?_, fun u hu => h.ud u (List.mem_of_mem_drop hu)⟩
  · rw [List.getElem?_drop] at hu hw
    exact h.ch (n + i) u w hu hw
  · rw [List.getLast?_drop] at hu
    split at hu
    · cases hu
    · exact h.la u hu
  · rw [List.getElem?_drop] at hu hw
    exact h.pre (n + i) (n + j) u w (by omega) hu hw
theorem Inv.keep {k sz : Nat} {s s' : S} (h : Inv k sz s) (hup : s'.up = s.up := by rfl) (hsz : s'.size = s.size := by rfl) (hq : s'.quality = s.quality := by rfl) (hu : s'.units = s.units := by rfl) (ha : s'.acks = s.acks := by rfl) (ht : s'.turn = s.turn := by rfl) (hp : s'.part = s.part := by rfl) (hs : s'.sent = s.sent := by rfl) : Inv k sz s' := by
  refine ⟨by rw [hup]; exact h.up1, by rw [hup]; exact h.up8, by rw [hsz]; exact h.size, h.sz1, h.sz2, by rw [hq]; exact h.q, by rw [hu]; exact h.ul, by rw [ha]; exact h.al, by rw [ha, hup]; exact h.aw, by rw [ht]; exact h.t0, by rw [ht]; exact h.t1, by rw [hp]; exact h.pt, by rw [hs, hu]; exact h.us, by rw [hs]; exact h.s0, by rw [hs]; exact h.s1⟩
theorem Inv.more {k sz : Nat} {s : S} (h : Inv k sz s) : Inv (k + 1) sz s :=
  ⟨h.up1, h.up8, h.size, h.sz1, h.sz2, h.q, by have := h.ul; omega, by have := h.al; omega, h.aw, h.t0, by have := h.t1; omega, h.pt, h.us, h.s0, h.s1⟩
theorem Inv.set {k sz : Nat} {s : S} (h : Inv k sz s) (wire : Int) (c : Bool) : Inv k sz (setS s wire c) := by
  unfold setS
  split
  · exact ⟨by simpa using h.up1, by simpa using h.up8, h.size, h.sz1, h.sz2, h.q, h.ul, h.al, by simpa using h.aw, h.t0, h.t1, h.pt, h.us, h.s0, h.s1⟩
  · exact h
theorem Inv.ack {k sz : Nat} {s : S} (h : Inv k sz s) (m f : Int) : Inv k sz (ackP s m f) := by
  unfold ackP
  split
  · split
    · split
      · exact h
      · exact ⟨h.up1, h.up8, h.size, h.sz1, h.sz2, h.q, by have := h.ul; simp [ackS]; omega, h.al, h.aw, h.t0, h.t1, h.pt, h.us.drop _, h.s0, h.s1⟩
    · exact h
  · exact h
theorem Inv.inS {k sz : Nat} {s : S} (h : Inv k sz s) (f : Fm) : Inv k sz (inS s f).1 := by
  unfold L35.inS
  split
  · rename_i hb
    have hl : s.part.length + f.data.length ≤ 4096 := by
      simp only [Bool.and_eq_true, Bool.not_eq_true', ilt_false] at hb
      omega
    split
    · exact ⟨h.up1, h.up8, h.size, h.sz1, h.sz2, h.q, h.ul, h.al, h.aw, h.t0, h.t1, by simp, h.us, h.s0, h.s1⟩
    · exact ⟨h.up1, h.up8, h.size, h.sz1, h.sz2, h.q, h.ul, h.al, h.aw, h.t0, h.t1, by simp; exact hl, h.us, h.s0, h.s1⟩
  · exact h
theorem Inv.input {k sz : Nat} {s : S} (h : Inv k sz s) (wire now : Int) (bs : List UInt8) : Inv (k + 1) sz (inR ackP s wire bs now).1 := by
  unfold inR
  split
  · rename_i hE
    have hw : 0 ≤ wire ∧ wire < (s.up.length : Int) := by
      rw [ieq_true] at hE
      unfold inE at hE
      cases h1 : ilt wire 0 || !(ilt wire (s.up.length : Int)) with
      | true => rw [h1] at hE; simp at hE
      | false => simp only [Bool.or_eq_false_iff, Bool.not_eq_false', ilt_false, ilt_true] at h1; exact h1
    have h1 : Inv k sz { s with clock := now } := h.keep
    split
    · exact (h1.ack _ _).more
    · have h2 := (h1.inS (decO bs))
      have hup : (L35.inS { s with clock := now } (decO bs)).1.up = s.up := by unfold L35.inS; repeat' split
                                                                               all_goals rfl
      refine ⟨h2.up1, h2.up8, h2.size, h2.sz1, h2.sz2, h2.q, by have := h2.ul; simp [ackA]; omega, by have := h2.al; simp [ackA]; omega, fun a ha => ?_, h2.t0, by have := h2.t1; simp [ackA]; omega, h2.pt, h2.us, h2.s0, h2.s1⟩
      rcases List.mem_append.1 ha with ha | ha
      · exact h2.aw a ha
      · simp at ha; subst ha
        show 0 ≤ wire ∧ wire < ((L35.inS { s with clock := now } (decO bs)).1.up.length : Int)
        rw [hup]; exact hw
  · exact h.more
theorem time_ok {s : S} {now : Int} (h : ieq (timeE s now) 0 = true) : 0 ≤ now ∧ now ≤ 1099511627776 := by
  rw [ieq_true] at h
  unfold timeE at h
  cases h1 : ilt now 0 || ilt 1099511627776 now with
  | true => rw [h1] at h; simp at h
  | false => simp only [Bool.or_eq_false_iff, ilt_false] at h1; exact h1
end Go.Eng.L35
/- Law 35: what stands is kept by Output and Send. -/
namespace Go.Eng.L35
open Go.Proofs Go.Eng
theorem mark_get (us : List U) (rs : Bool) (now : Int) (i : Nat) : ((us.take 8).map (markU rs now) ++ us.drop 8)[i]? = us[i]?.map fun u => if i < 8 then markU rs now u else u := by
  by_cases h8 : i < 8
  · simp only [if_pos h8]
    by_cases hl : i < us.length
    · rw [List.getElem?_append_left (by simp; omega), List.getElem?_map, List.getElem?_take, if_pos h8]
    · rw [List.getElem?_eq_none (by simp; omega), List.getElem?_eq_none (by omega)]; rfl
  · simp only [if_neg h8]
    by_cases hl : i < us.length
    · rw [List.getElem?_append_right (by simp; omega), List.getElem?_drop]
      have : 8 + (i - ((us.take 8).map (markU rs now)).length) = i := by simp; omega
      rw [this]; simp
    · rw [List.getElem?_eq_none (by simp; omega), List.getElem?_eq_none (by omega)]; rfl
theorem mark_same (rs : Bool) (now : Int) (u : U) : (markU rs now u).last = u.last ∧ (markU rs now u).msg = u.msg ∧ (markU rs now u).frag = u.frag ∧ (markU rs now u).data = u.data := by
  unfold markU; split <;> exact ⟨rfl, rfl, rfl, rfl⟩
theorem mark_at {rs : Bool} {now : Int} (h : 0 ≤ now) (u : U) : 0 ≤ (markU rs now u).at_ := by
  unfold markU
  split
  · exact h
  · rename_i hs
    unfold sendU at hs
    simp only [Bool.or_eq_true, not_or, Bool.not_eq_true, ilt_false] at hs
    exact hs.2
theorem mark_nxt (rs : Bool) (now : Int) (u : U) : nxt (markU rs now u) = nxt u := by
  obtain ⟨h1, h2, h3, _⟩ := mark_same rs now u
  unfold nxt; rw [h1, h2, h3]
theorem UnitsOk.mark {M now : Int} {us : List U} (h : UnitsOk M us) (rs : Bool) (hn : 0 ≤ now) : UnitsOk M ((us.take 8).map (markU rs now) ++ us.drop 8) := by
  have g := mark_get us rs now
  have key : ∀ (i : Nat) (u : U), ((us.take 8).map (markU rs now) ++ us.drop 8)[i]? = some u → ∃ w, us[i]? = some w ∧ (u = markU rs now w ∨ (8 ≤ i ∧ u = w)) := fun i u hu => by
    rw [g] at hu
    cases hw : us[i]? with
    | none => rw [hw] at hu; cases hu
    | some w =>
      rw [hw] at hu
      simp only [Option.map_some, Option.some.injEq] at hu
      by_cases h8 : i < 8
      · rw [if_pos h8] at hu; exact ⟨w, rfl, .inl hu.symm⟩
      · rw [if_neg h8] at hu; exact ⟨w, rfl, .inr ⟨by omega, hu.symm⟩⟩
  have same : ∀ (i : Nat) (u w : U), (u = markU rs now w ∨ (8 ≤ i ∧ u = w)) → u.last = w.last ∧ u.msg = w.msg ∧ u.frag = w.frag ∧ u.data = w.data ∧ nxt u = nxt w := fun i u w h => by
    rcases h with rfl | ⟨_, rfl⟩
    · obtain ⟨h1, h2, h3, h4⟩ := mark_same rs now w
      exact ⟨h1, h2, h3, h4, mark_nxt rs now w⟩
    · exact ⟨rfl, rfl, rfl, rfl, rfl⟩
  have mem : ∀ u ∈ ((us.take 8).map (markU rs now) ++ us.drop 8), ∃ i, ((us.take 8).map (markU rs now) ++ us.drop 8)[i]? = some u := fun u hu => by
    obtain ⟨i, hi, e⟩ := List.getElem_of_mem hu
    exact ⟨i, by rw [List.getElem?_eq_getElem hi, e]⟩
  refine ⟨fun i u w hu hw => ?_, fun u hu => ?_, fun u hu => ?_, fun i j u w hij hu hw hat => ?_, fun u hu => ?_⟩
  · obtain ⟨u', hu', e1⟩ := key i u hu
    obtain ⟨w', hw', e2⟩ := key (i + 1) w hw
    have s1 := same _ _ _ e1
    have s2 := same _ _ _ e2
    rw [s2.2.1, s2.2.2.1, s1.2.2.2.2]
    exact h.ch i u' w' hu' hw'
  · obtain ⟨i, hi⟩ := mem u hu
    obtain ⟨u', hu', e1⟩ := key i u hi
    have s1 := same _ _ _ e1
    rw [s1.2.1, s1.2.2.1]
    exact h.ub u' (List.mem_of_getElem? hu')
  · rw [List.getLast?_eq_getElem?] at hu
    have hl : ((us.take 8).map (markU rs now) ++ us.drop 8).length = us.length := by simp; omega
    rw [hl] at hu
    obtain ⟨u', hu', e1⟩ := key _ u hu
    have s1 := same _ _ _ e1
    rw [s1.1, s1.2.1]
    exact h.la u' (by rw [List.getLast?_eq_getElem?]; exact hu')
  · obtain ⟨u', hu', e1⟩ := key i u hu
    obtain ⟨w', hw', e2⟩ := key j w hw
    rcases e1 with rfl | ⟨h8, rfl⟩
    · exact mark_at hn u'
    · rcases e2 with rfl | ⟨_, rfl⟩
      · rw [g] at hw
        rw [hw'] at hw
        simp only [Option.map_some, if_neg (show ¬ j < 8 by omega), Option.some.injEq] at hw
        rw [← hw] at hat
        exact h.pre i j _ _ hij hu' hw' hat
      · exact h.pre i j _ _ hij hu' hw' hat
  · obtain ⟨i, hi⟩ := mem u hu
    obtain ⟨u', hu', e1⟩ := key i u hi
    have s1 := same _ _ _ e1
    rw [s1.2.2.2.1]
    exact h.ud u' (List.mem_of_getElem? hu')
theorem finF_min (s3 : S) (ups : List Nat) (rs : Bool) (o1 : List (Int × List UInt8)) : finF s3 ups rs o1 8 = finF s3 ups rs o1 (min 8 s3.units.length) := by
  by_cases h8 : s3.units.length ≤ 8
  · rw [Nat.min_eq_right h8]; unfold finF; rw [List.take_of_length_le h8, List.take_of_length_le (Nat.le_refl _)]
  · rw [Nat.min_eq_left (by omega)]
theorem Inv.fin {k sz : Nat} {s : S} (h : Inv k sz s) (hk : k ≤ 1000) (now : Int) (hn : 0 ≤ now) (rs : Bool) (ups : List Nat) (o1 : List (Int × List UInt8)) : Inv (k + 1) sz (finS s ups rs now o1 8) := by
  have hb := finF_bound (s3 := s) (ups := ups) (rs := rs) (o1 := o1) ⟨h.t0, by have := h.t1; omega⟩ (N := min 8 s.units.length) (Nat.min_le_right _ _) (Nat.min_le_left _ _)
  rw [← finF_min] at hb
  refine ⟨h.up1, h.up8, h.size, h.sz1, h.sz2, h.q, ?_, by have := h.al; simp [finS]; omega, h.aw, hb.1, ?_, h.pt, h.us.mark rs hn, h.s0, h.s1⟩
  · have := h.ul
    simp only [finS, List.length_append, List.length_map, List.length_take, List.length_drop]; omega
  · have := h.t1
    have := hb.2.1
    show (finF s ups rs o1 8).1 ≤ _
    omega
theorem Inv.output {k sz : Nat} {s : S} (h : Inv k sz s) (hk : k ≤ 1000) (now : Int) : Inv (k + 1) sz (outR s now).1 := by
  unfold outR
  split
  · rename_i hT
    have hn := (time_ok hT).1
    split
    · exact h.more.keep
    · split
      · have := h.more
        exact ⟨this.up1, this.up8, this.size, this.sz1, this.sz2, this.q, this.ul, by simp, by simp, this.t0, this.t1, this.pt, this.us, this.s0, this.s1⟩
      · have h2 : Inv k sz { s with clock := now, acks := [], repeats := (if resR s now then IntKind.i64.wrap (s.repeats + 1) else s.repeats) } := ⟨h.up1, h.up8, h.size, h.sz1, h.sz2, h.q, h.ul, by simp, by simp, h.t0, h.t1, h.pt, h.us, h.s0, h.s1⟩
        exact h2.fin hk now hn (resR s now) (usb s.up) (s.acks.map (ackO s.up (usb s.up)))
  · exact h.more
end Go.Eng.L35
/- Law 35: what stands is kept by Send. -/
namespace Go.Eng.L35
open Go.Proofs Go.Eng
theorem pieceN_le {len sz : Nat} (h8 : 8 ≤ sz) (hl : len ≤ 4096) : pieceN len sz ≤ 600 := by
  unfold pieceN
  have : (len + sz - 1) / sz ≤ 600 := by
    have h1 : (len + sz - 1) / sz < 601 := by
      rw [Nat.div_lt_iff_lt_mul (by omega)]
      have : 601 * 8 ≤ 601 * sz := Nat.mul_le_mul_left 601 h8
      have : 601 * sz = 600 * sz + sz := by omega
      have : 600 * 8 ≤ 600 * sz := Nat.mul_le_mul_left 600 h8
      omega
    omega
  omega
theorem UnitsOk.push {M : Int} {us : List U} (h : UnitsOk M us) (hM : 0 ≤ M) (bs : List UInt8) {sz : Nat} (h8 : 8 ≤ sz) (hs2 : sz ≤ 4096) (hl : bs.length ≤ 4096) : UnitsOk (M + 1) (us ++ (List.range (pieceN bs.length sz)).map fun i => piece bs sz (M + 1) i) := by
  obtain ⟨n, hn⟩ : ∃ n, n = pieceN bs.length sz := ⟨_, rfl⟩
  have hlt : ∀ i, i < n ↔ i = 0 ∨ i * sz < bs.length := fun i => by rw [hn]; exact pieceN_lt (by omega)
  have hn6 : n ≤ 600 := by rw [hn]; exact pieceN_le h8 hl
  have hn1 : 1 ≤ n := by have := (hlt 0).2 (.inl rfl); omega
  rw [← hn]
  have gl : ∀ i, i < us.length → (us ++ (List.range n).map fun i => piece bs sz (M + 1) i)[i]? = us[i]? := fun i hi => List.getElem?_append_left hi
  have gr : ∀ i u, us.length ≤ i → (us ++ (List.range n).map fun i => piece bs sz (M + 1) i)[i]? = some u → ∃ j, i = us.length + j ∧ j < n ∧ u = piece bs sz (M + 1) j := fun i u hi hu => by
    rw [List.getElem?_append_right hi, List.getElem?_map] at hu
    cases hj : (List.range n)[i - us.length]? with
    | none => rw [hj] at hu; cases hu
    | some j =>
      obtain ⟨hj1, hj2⟩ := List.getElem?_eq_some_iff.1 hj
      rw [List.getElem_range] at hj2
      rw [hj] at hu
      simp at hj1 hu
      exact ⟨j, by omega, by omega, hu.symm⟩
  have last_no : ∀ j, j + 1 < n → (piece bs sz (M + 1) j).last = false := fun j hj => by
    have := (hlt (j + 1)).1 hj
    simp [piece]; omega
  refine ⟨fun i u w hu hw => ?_, fun u hu => ?_, fun u hu => ?_, fun i j u w hij hu hw hat => ?_, fun u hu => ?_⟩
  · by_cases h1 : i + 1 < us.length
    · rw [gl i (by omega)] at hu; rw [gl _ h1] at hw
      exact h.ch i u w hu hw
    · obtain ⟨j, hj, hjn, rfl⟩ := gr _ w (by omega) hw
      by_cases h2 : i < us.length
      · rw [gl i h2] at hu
        obtain ⟨k1, k2⟩ := h.la u (by rw [List.getLast?_eq_getElem?, show us.length - 1 = i by omega]; exact hu)
        have hj0 : j = 0 := by omega
        subst hj0
        unfold nxt; rw [k1, k2]; rfl
      · obtain ⟨j', hj', hjn', rfl⟩ := gr _ u (by omega) hu
        have hjj : j = j' + 1 := by omega
        subst hjj
        unfold nxt
        rw [last_no j' hjn]
        simp [piece]
  · rcases List.mem_append.1 hu with hu | hu
    · have := h.ub u hu; omega
    · obtain ⟨j, hj, rfl⟩ := List.mem_map.1 hu
      rw [List.mem_range] at hj
      simp only [piece]; omega
  · rw [List.getLast?_eq_getElem?] at hu
    have hlen : (us ++ (List.range n).map fun i => piece bs sz (M + 1) i).length = us.length + n := by simp
    rw [hlen] at hu
    obtain ⟨j, hj, hjn, rfl⟩ := gr _ u (by omega) hu
    have hjn : j + 1 = n := by omega
    have hnn := mt (hlt n).2 (Nat.lt_irrefl n)
    refine ⟨?_, rfl⟩
    simp only [piece, hjn]
    have : bs.length ≤ n * sz := by omega
    rw [Nat.min_eq_right this]; simp
  · by_cases h1 : j < us.length
    · rw [gl i (by omega)] at hu; rw [gl j h1] at hw
      exact h.pre i j u w hij hu hw hat
    · obtain ⟨j', _, _, rfl⟩ := gr _ w (by omega) hw
      simp [piece] at hat
  · rcases List.mem_append.1 hu with hu | hu
    · exact h.ud u hu
    · obtain ⟨j, hj, rfl⟩ := List.mem_map.1 hu
      simp [piece]; omega
theorem Inv.send {k sz : Nat} {s : S} (h : Inv k sz s) (bs : List UInt8) (now : Int) : Inv (k + 1) sz (sendR s sz bs now).1 := by
  unfold sendR
  split
  · rename_i hE
    have h0 := h.s0
    have h1 : bs.length ≤ 4096 ∧ s.sent < 1099511627776 := by
      rw [ieq_true] at hE
      unfold sendE at hE
      cases c1 : ilt 4096 (bs.length : Int) with
      | true => rw [c1] at hE; simp at hE
      | false =>
        rw [c1] at hE
        cases c2 : ieq (timeE s now) 0 with
        | false => rw [c2] at hE; simp at hE; rw [ieq_false] at c2; exact absurd hE c2
        | true =>
          rw [c2] at hE
          cases c3 : ilt (IntKind.i64.wrap (s.sent - s.done)) 64 with
          | false => rw [c3] at hE; simp at hE
          | true =>
            rw [c3] at hE
            cases c4 : ilt s.sent 1099511627776 with
            | false => rw [c4] at hE; simp at hE
            | true => rw [ilt_false] at c1; rw [ilt_true] at c4; omega
    have hw : IntKind.i64.wrap (s.sent + 1) = s.sent + 1 := wrap_in (by omega)
    rw [hw]
    have hn := pieceN_le h.sz1 h1.1
    have hu := h.ul
    exact ⟨h.up1, h.up8, h.size, h.sz1, h.sz2, h.q, by simp; omega, by have := h.al; show s.acks.length ≤ _; omega, h.aw, h.t0, by have := h.t1; show s.turn ≤ _; omega, h.pt, h.us.push h.s0 bs h.sz1 (by have := h.sz2; omega) h1.1, by show 0 ≤ s.sent + 1; omega, by show s.sent + 1 ≤ _; omega⟩
  · exact h.more
theorem Inv.new {w sz q t : Int} (h : newE w sz q t = 0) : ∃ z : Nat, sz = 24 + (z : Int) ∧ Inv 0 z (newS w.toNat sz q t) := by
  unfold newE at h
  cases c1 : ilt w 1 || ilt 8 w || ilt sz 32 || ilt 4096 sz || ilt t 1 || ilt 1099511627776 t with
  | true => rw [c1] at h; simp at h
  | false =>
    rw [c1] at h
    cases c2 : ilt q 0 || ilt 2 q with
    | true => rw [c2] at h; simp at h
    | false =>
      simp only [Bool.or_eq_false_iff, ilt_false] at c1 c2
      refine ⟨(sz - 24).toNat, by omega, ?_⟩
      exact ⟨by simp [newS]; omega, by simp [newS]; omega, by simp [newS]; omega, by omega, by omega, by simp [newS]; omega, by simp [newS], by simp [newS], by simp [newS], by simp [newS], by simp [newS], by simp [newS],
        ⟨fun i u w hu => by simp [newS] at hu, fun u hu => by simp [newS] at hu, fun u hu => by simp [newS] at hu, fun i j u w _ hu => by simp [newS] at hu, fun u hu => by simp [newS] at hu⟩, by simp [newS], by simp [newS]⟩
end Go.Eng.L35
