/- Law 35: Next. -/
import Derived.Test.YtcjgagkkanokjabL35J
namespace Go.Eng.L35
open Go.Proofs Go.Eng
theorem Sl.at0 {h : AHeap} {n : Nat} {x : AV} {l : List (List AV)} (hs : Sl h n x l) {t e : TypeId} (hu : Try.prog.underlying t = some (.slice e)) (hz : tsz Try.prog e = some n) (hi : 0 < l.length) :
    ∃ b o, blk x = some b ∧ pindexAddr Try.prog t x (i64 0) = some (.ptr b o) ∧ b < h.next ∧
      (isAggT Try.prog e = some true → atCells Try.prog e (h.get b) o = some (.agg (l[0]'hi))) ∧ ∀ f s, isAggT Try.prog s = some false → f < n → atCells Try.prog s (h.get b) (o + f) = (l[0]'hi)[f]? := Sl.at_blk hs hu hz 0 hi
/-- The first that is so, or -1. -/
def idxF (f : List AV → Bool) (rows : List (List AV)) : Int := match rows.findIdx? f with | some i => (i : Int) | none => -1
variable [O35]
theorem index_sp {h : AHeap} {x : AV} {rows : List (List AV)} (hs : Sl h 6 x rows) (hl : rows.length ≤ 1000000) (g : FuncId) (cap : List AV) (f : List AV → Bool) (hg : hasBody Try.prog g = true)
    (hcb : ∀ h' row, row ∈ rows → Pres h h' → Ca Try.prog g (.agg row :: cap) h' fun r h'' => r = .bool (f row) ∧ Pres h' h'') :
    Ca Try.prog 51 [x, .func g cap] h fun r h' => r = i64 (idxF f rows) ∧ Pres h h' := by
  refine ci Try.func51 rfl (by decide) ?_
  intro fr hn hg0
  replace hn : fr.n = 19 := hn
  have h0 : fr.get 0 = some x := hg0 0 (by simp)
  have h1 : fr.get 1 = some (.func g cap) := hg0 1 (by simp)
  clear hg0
  show AW _ _ _ _ _
  simp [hn, h0, h1, hs.len sl53, kseq_normal]
  refine AW_loop_fr (fun m fr' h' => ∃ k, m = rows.length - k ∧ k ≤ rows.length ∧ fr'.get 8 = some (i64 (k : Nat)) ∧ (∀ r ∈ rows.take k, f r = false) ∧ Pres h h') rows.length
    ⟨0, by simp, by omega, by simp, by simp, Pres.refl h⟩ ?_
  rintro J hJ m fr' h' ⟨k, rfl, hk, h8, hno, hp⟩ hfr
  have hn' : fr'.n = 19 := hfr.1.trans (by simp [hn])
  have h0' : fr'.get 0 = some x := (hfr.2 0 (by kernel_rfl)).trans (by simp [h0])
  have h1' : fr'.get 1 = some (.func g cap) := (hfr.2 1 (by kernel_rfl)).trans (by simp [h1])
  have h7' : fr'.get 7 = some (i64 (rows.length : Int)) := (hfr.2 7 (by kernel_rfl)).trans (by simp)
  clear hfr
  simp [hn', h7', h8, kseq_normal]
  refine Br.mk (fun hb => ?_) (fun hb => ?_)
  · have hk : k < rows.length := by rw [ilt_true] at hb; omega
    obtain ⟨b, o, _, hix, _, hag, _⟩ := Sl.at_blk (hs.pres hp) sl53 sz78 k hk
    have hag := hag ag78
    simp [hn', h0', h1', h7', h8, hix, hag, kseq_normal, hg]
    refine (hcb h' rows[k] (List.getElem_mem _) hp).mono ?_
    rintro r h2 ⟨rfl, hp2⟩
    simp [hn', h0', h1', h7', h8, kseq_normal]
    refine Br.mk (fun hc => ?_) (fun hc => ?_)
    · have e : idxF f rows = (k : Int) := by
        unfold idxF
        have : rows.findIdx? f = some k := by
          rw [List.findIdx?_eq_some_iff_getElem]
          exact ⟨hk, hc, fun j hj => by
            have := hno rows[j] (by rw [List.mem_take_iff_getElem]; exact ⟨j, by omega, rfl⟩)
            simp [this]⟩
        rw [this]
      simp [hn', h8, kseq_normal, e]
      exact hp.trans hp2
    · simp [hn', h8, kseq_normal]
      rw [kloop_normal]
      refine ⟨rows.length - (k + 1), by omega, hJ _ _ _ ⟨k + 1, rfl, by omega, by simp [wrap_nat k (by omega)], fun r hr => ?_, hp.trans hp2⟩⟩
      rw [List.take_add_one, List.getElem?_eq_getElem hk] at hr
      rcases List.mem_append.1 hr with hr | hr
      · exact hno r hr
      · simp at hr; rw [hr]; exact hc
  · have : k = rows.length := by rw [ilt_false] at hb; omega
    subst this
    rw [List.take_length] at hno
    have e : idxF f rows = -1 := by
      unfold idxF
      have : rows.findIdx? f = none := by rw [List.findIdx?_eq_none_iff]; exact hno
      rw [this]
    simp [hn', kseq_normal, e]
    exact hp
/-- Is it not sent yet? -/
def rowNew (row : List AV) : Bool := match row[5]? with | some (AV.int _ n) => ilt n 0 | _ => false
theorem cb36_sp {h : AHeap} {u : U} {d : AV} (hd : Bs h d u.data) : Ca Try.prog 36 [.agg (urow u d)] h fun r h' => r = .bool (ilt u.at_ 0) ∧ Pres h h' := by
  refine ci Try.func36 rfl (by decide) ?_
  intro fr hn hg
  replace hn : fr.n = 6 := hn
  have h0 : fr.get 0 = some (.agg (urow u d)) := hg 0 (by simp)
  clear hg
  show AW _ _ _ _ _
  obtain ⟨_, hd2, _⟩ := hd.one
  simp [hn, h0, hd2, kseq_normal]
  exact (Pres.refl h).new _
omit [O35] in
theorem UR.new {h : AHeap} {u : U} {row : List AV} (hu : UR h u row) : rowNew row = ilt u.at_ 0 := by obtain ⟨d, rfl, _⟩ := hu; rfl
omit [O35] in
theorem URs.mem {h : AHeap} : ∀ {us rows}, URs h us rows → ∀ row ∈ rows, ∃ u ∈ us, UR h u row
  | _, _, .nil, row, hm => by cases hm
  | _, _, .cons hu r, row, hm => by
    rcases List.mem_cons.1 hm with e | hm
    · subst e; exact ⟨_, List.mem_cons_self, hu⟩
    · obtain ⟨u, h1, h2⟩ := URs.mem r row hm; exact ⟨u, List.mem_cons_of_mem _ h1, h2⟩
omit [O35] in
theorem URs.take {h : AHeap} : ∀ {us rows}, URs h us rows → ∀ n, URs h (us.take n) (rows.take n)
  | _, _, .nil, n => by simpa using URs.nil
  | _, _, .cons hu r, 0 => .nil
  | _, _, .cons hu r, n + 1 => .cons hu (URs.take r n)
omit [O35] in
theorem URs.drop {h : AHeap} : ∀ {us rows}, URs h us rows → ∀ n, URs h (us.drop n) (rows.drop n)
  | _, _, .nil, n => by simpa using URs.nil
  | _, _, .cons hu r, 0 => .cons hu r
  | _, _, .cons hu r, n + 1 => URs.drop r n
omit [O35] in
theorem URs.idx_new {h : AHeap} : ∀ {us rows}, URs h us rows → (rows.findIdx? rowNew).isSome = us.any fun u => ilt u.at_ 0
  | _, _, .nil => rfl
  | _, _, .cons hu r => by
    rw [List.findIdx?_cons, List.any_cons, hu.new]
    split
    · rename_i hb; simp [hb]
    · rename_i hb; simp [hb, URs.idx_new r]
theorem contains_sp {h : AHeap} {x : AV} {us : List U} {rows : List (List AV)} (hs : Sl h 6 x rows) (hu : URs h us rows) (hl : rows.length ≤ 1000000) :
    Ca Try.prog 35 [x, .func 36 []] h fun r h' => r = .bool (us.any fun u => ilt u.at_ 0) ∧ Pres h h' := by
  refine ci Try.func35 rfl (by decide) ?_
  intro fr hn hg0
  replace hn : fr.n = 9 := hn
  have h0 : fr.get 0 = some x := hg0 0 (by simp)
  have h1 : fr.get 1 = some (.func 36 []) := hg0 1 (by simp)
  clear hg0
  show AW _ _ _ _ _
  simp [hn, h0, h1, kseq_normal]
  refine (index_sp hs hl 36 [] rowNew (by kernel_rfl) fun h' row hm hp => ?_).mono ?_
  · obtain ⟨u, _, hur⟩ := hu.mem row hm
    obtain ⟨d, rfl, hd⟩ := hur
    exact cb36_sp (hd.pres hp)
  · rintro r h2 ⟨rfl, hp2⟩
    have e : ilt (idxF rowNew rows) 0 = !(us.any fun u => ilt u.at_ 0) := by
      rw [← URs.idx_new hu]
      unfold idxF
      cases rows.findIdx? rowNew with
      | none => rfl
      | some i => simp; rw [ilt_false]; omega
    simp [hn, kseq_normal, e]
    exact hp2
/-- Next. -/
def nextR (s : S) : Int × Bool :=
  if s.broke then (0, false) else
  if ilt 0 (s.acks.length : Int) || (s.units.take 8).any (fun u => ilt u.at_ 0) then (s.clock, true) else
  match s.units with
  | [] => (0, false)
  | u :: _ => (max s.clock (IntKind.i64.wrap (u.at_ + s.timeout)), true)
theorem pnext_sp {h : AHeap} {p : Nat} {s : S} {v : V} (hp : PL h p s v) (hl : s.units.length ≤ 1000000) : Ca Try.prog 12 [.ptr p 0] h fun r h' => r = .tuple [i64 (nextR s).1, .bool (nextR s).2] ∧ Pres h h' := by
  refine ci Try.func12 rfl (by decide) ?_
  intro fr hn hg
  replace hn : fr.n = 55 := hn
  have h0 : fr.get 0 = some (.ptr p 0) := hg 0 (by simp)
  clear hg
  show AW _ _ _ _ _
  have hc := hp.cells
  have hul := hp.us.length
  have hun := hp.un.sl
  have hlen := hun.len sl53
  have halen : plen Try.prog 54 v.ak = some (i64 (s.acks.length : Int)) := by have := hp.ak.sl.len sl54; simpa using this
  rw [← hul] at hlen
  simp [hn, h0, hc, kseq_normal]
  refine Br.mk (fun hb => ?_) (fun hb => ?_)
  · simp [hn, kseq_normal, nextR, hb, Pres.refl]
  obtain ⟨w, hw, hws, _⟩ := hun.slice sl53 sz78 (lo := none) (hi := some (i64 ((min 8 s.units.length : Nat) : Int))) (i := 0) (j := min 8 s.units.length) (by rfl) (by simp [bnd, nat?]) (by omega) (by omega)
  have hmin : min2 (some [i64 8, i64 (s.units.length : Int)]) = some (i64 ((min 8 s.units.length : Nat) : Int)) := min2_nat .i64 8 _
  simp only [List.drop_zero, Nat.sub_zero] at hws
  have hwl := hws.len sl53
  have htk : s.units.take (min 8 s.units.length) = s.units.take 8 := by
    by_cases h8 : s.units.length ≤ 8
    · rw [Nat.min_eq_right h8, List.take_of_length_le (Nat.le_refl _), List.take_of_length_le h8]
    · rw [Nat.min_eq_left (by omega)]
  have hus := URs.take hp.us (min 8 s.units.length)
  rw [htk] at hus
  have hrl : (v.rows.take (min 8 s.units.length)).length = min 8 s.units.length := by rw [List.length_take]; omega
  rw [hrl] at hwl
  generalize hW : min 8 s.units.length = W at *
  refine AW_region_t _ _ _ _ _ (by kernel_rfl) ?_
  simp [hn, h0, hc, hlen, hmin, hw]
  rw [kseq_normal]
  simp [hn, h0, hc, halen, kseq_normal]
  have fin : ∀ (fr' : AFrame) (h' : AHeap), Pres h h' → fr'.get 2 = some (i64 (nextR s).1) → fr'.get 3 = some (.bool (nextR s).2) → kfun Try.prog [ResultVar.tmp 2, ResultVar.tmp 3] (fun r h' => r = .tuple [i64 (nextR s).1, .bool (nextR s).2] ∧ Pres h h') .ret fr' h' := fun fr' h' hp k2 k3 => by
    rw [kfun_ret]; simp [k2, k3, hp]
  refine Br.mk (fun hb1 => ?_) (fun hb1 => ?_)
  · simp [hn, h0, hc, hb1, kseq_normal, nextR, hb, Pres.refl]
  simp [hn, h0, hc, kseq_normal]
  refine (contains_sp hws hus (by omega)).mono ?_
  rintro r h2 ⟨rfl, hp2⟩
  have hc2 := (hp.pres hp2).cells
  simp [hn, h0, hc2, kseq_normal]
  have hany : (s.units.take 8).any (fun u => ilt u.at_ 0) = true ∨ (s.units.take 8).any (fun u => ilt u.at_ 0) = false := by cases (s.units.take 8).any (fun u => ilt u.at_ 0) <;> simp
  refine Br.mk (fun hb2 => ?_) (fun hb2 => ?_)
  · simp [hn, h0, hc2, kseq_normal, nextR, hb, hb1, hb2, hp2]
  simp [hn, h0, hc2, hwl, kseq_normal]
  refine Br.mk (fun hb3 => ?_) (fun hb3 => ?_)
  · rw [ilt_true] at hb3
    obtain ⟨u0, us0, hu0⟩ : ∃ u0 us0, s.units = u0 :: us0 := by
      cases hh : s.units with
      | nil => rw [hh] at hW; simp at hW; omega
      | cons u us => exact ⟨u, us, rfl⟩
    obtain ⟨b, o, _, hix, hbn, _, hat⟩ := Sl.at0 (hws.pres hp2) sl53 sz78 (by omega)
    obtain ⟨cs, hcs, d, rfl, _⟩ := hus.get 0 u0 (by rw [hu0]; rfl)
    have h00 : (v.rows.take W)[0]'(by omega) = urow u0 d := by
      rw [List.getElem?_eq_getElem (by omega)] at hcs
      exact Option.some.inj hcs
    have hat := hat 5 2 ag2 (by omega)
    rw [h00] at hat
    simp at hat
    refine AW_region_t _ _ _ _ _ (by kernel_rfl) ?_
    simp [hn, h0, hc2, hix, hat, max2_int, kseq_normal]
    have e : nextR s = (max s.clock (IntKind.i64.wrap (u0.at_ + s.timeout)), true) := by
      unfold nextR
      rw [hb, hb1, hb2, hu0]; rfl
    rw [e]
    exact ⟨⟨rfl, rfl⟩, hp2⟩
  · rw [ilt_false] at hb3
    have hu0 : s.units = [] := List.length_eq_zero_iff.1 (by omega)
    have e : nextR s = (0, false) := by
      unfold nextR
      rw [hb, hb1, hb2, hu0]; rfl
    simp [hn, kseq_normal, e, hp2]
omit [O35] in
theorem any_take_succ {α : Type} (f : α → Bool) {l : List α} {k : Nat} (hk : k < l.length) : (l.take (k + 1)).any f = ((l.take k).any f || f l[k]) := by
  rw [List.take_add_one, List.any_append, List.getElem?_eq_getElem hk]; simp
theorem rnext_sp {h : AHeap} {p : Nat} {s : S} {v : V} (hp : RL h p s v) (hl : s.units.length ≤ 1000000) : Ca Try.prog 25 [.ptr p 0] h fun r h' => r = .tuple [i64 (nextR s).1, .bool (nextR s).2] ∧ Pres h h' := by
  refine ci Try.func25 rfl (by decide) ?_
  intro fr hn hg
  replace hn : fr.n = 68 := hn
  have h0 : fr.get 0 = some (.ptr p 0) := hg 0 (by simp)
  clear hg
  show AW _ _ _ _ _
  have hc := hp.cells
  have hul := hp.us.length
  have hun := hp.un.sl
  have hlen := hun.len sl57
  have halen : plen Try.prog 58 v.ak = some (i64 (s.acks.length : Int)) := by have := hp.ak.sl.len sl58; simpa using this
  rw [← hul] at hlen
  simp [hn, h0, hc, kseq_normal]
  refine Br.mk (fun hb => ?_) (fun hb => ?_)
  · simp [hn, kseq_normal, nextR, hb, Pres.refl]
  simp [hn, h0, hc, halen, kseq_normal]
  refine Br.mk (fun hb1 => ?_) (fun hb1 => ?_)
  · simp [hn, h0, hc, hb1, kseq_normal, nextR, hb, Pres.refl]
  simp [hn, h0, hc, kseq_normal]
  have row : ∀ (i : Nat) (hi : i < s.units.length), ∃ b o, pindexAddr Try.prog 57 v.un (i64 (i : Int)) = some (.ptr b o) ∧ atCells Try.prog 2 (h.get b) (o + 5) = some (i64 (s.units[i]).at_) := fun i hi => by
    obtain ⟨b, o, _, hix, hbn, _, hat⟩ := Sl.at_blk hun sl57 sz94 i (by omega)
    obtain ⟨cs, hcs, d, rfl, _⟩ := hp.us.get i s.units[i] (List.getElem?_eq_getElem hi)
    have hat := hat 5 2 ag2 (by omega)
    rw [List.getElem?_eq_getElem (by omega)] at hcs
    rw [Option.some.inj hcs] at hat
    exact ⟨b, o, hix, by simpa using hat⟩
  refine AW_loop_fr (fun m fr' h' => ∃ i, m = s.units.length - i ∧ i ≤ s.units.length ∧ i ≤ 8 ∧ fr'.get 4 = some (i64 (i : Nat)) ∧ (s.units.take i).any (fun u => ilt u.at_ 0) = false ∧ h' = h) s.units.length
    ⟨0, by simp, by omega, by omega, by simp, by simp, rfl⟩ ?_
  rintro J hJ m fr' h' ⟨i, rfl, hi, hi8, h4, hany, rfl⟩ hfr
  have hn' : fr'.n = 68 := hfr.1.trans (by simp [hn])
  have h0' : fr'.get 0 = some (.ptr p 0) := (hfr.2 0 (by kernel_rfl)).trans (by simp [h0])
  clear hfr
  rw [AW_seq, AW_seq, AW_region_f]
  refine OW_cut (fun fr2 h2 => h2 = h' ∧ fr2.n = 68 ∧ fr2.get 0 = some (.ptr p 0) ∧ fr2.get 4 = some (i64 (i : Nat)) ∧ fr2.get 29 = some (.bool (ilt (i : Int) (s.units.length : Int) && ilt (i : Int) 8))) ?_ ?_
  · simp [hn', h0', h4, hc, hlen]
    refine Br.mk (fun hb => ?_) (fun hb => ?_) <;> simp [hb, hn', h0', h4]
  clear hn' h0' h4
  rintro fr2 h2 ⟨rfl, hn', h0', h4, hcnd⟩
  simp [hn', hcnd, kseq_normal]
  refine Br.mk (fun hb2 => ?_) (fun hb2 => ?_)
  · simp only [Bool.and_eq_true, ilt_true] at hb2
    have hi2 : i < s.units.length := by omega
    obtain ⟨b, o, hix, hat⟩ := row i hi2
    have hat2 := any_take_succ (fun u => ilt u.at_ 0) hi2
    rw [hany, Bool.false_or] at hat2
    simp [hn', h0', h4, hc, hix, hat, kseq_normal]
    refine Br.mk (fun hb3 => ?_) (fun hb3 => ?_)
    · have e : (s.units.take 8).any (fun u => ilt u.at_ 0) = true := by
        rw [List.any_eq_true]
        exact ⟨s.units[i], by rw [List.mem_take_iff_getElem]; exact ⟨i, by omega, rfl⟩, hb3⟩
      simp [hn', h0', hc, kseq_normal, nextR, hb, hb1, e, Pres.refl]
    · simp [hn', h4, kseq_normal]
      rw [kloop_normal]
      exact ⟨s.units.length - (i + 1), by omega, hJ _ _ _ ⟨i + 1, rfl, by omega, by omega, by simp [wrap_nat i (by omega)], by rw [hat2]; exact hb3, rfl⟩⟩
  · have e8 : (s.units.take 8).any (fun u => ilt u.at_ 0) = false := by
      rw [Bool.and_eq_false_iff, ilt_false, ilt_false] at hb2
      rcases hb2 with hb2 | hb2
      · rw [List.take_of_length_le (by omega)] at hany
        rw [List.take_of_length_le (by omega)]; exact hany
      · have : i = 8 := by omega
        rw [← this]; exact hany
    simp [hn', h0', hc, hlen, kseq_normal]
    refine Br.mk (fun hb3 => ?_) (fun hb3 => ?_)
    · rw [ilt_true] at hb3
      obtain ⟨u0, us0, hu0⟩ : ∃ u0 us0, s.units = u0 :: us0 := by
        cases hh : s.units with
        | nil => rw [hh] at hb3; simp at hb3
        | cons u us => exact ⟨u, us, rfl⟩
      obtain ⟨b, o, hix, hat⟩ := row 0 (by omega)
      have hix0 : pindexAddr Try.prog 57 v.un (i64 0) = some (.ptr b o) := hix
      have hg0 : s.units[0]'(by omega) = u0 := by simp [hu0]
      rw [hg0] at hat
      refine AW_region_t _ _ _ _ _ (by kernel_rfl) ?_
      simp [hn', h0', hc, hix0, hat, max2_int, kseq_normal]
      have e : nextR s = (max s.clock (IntKind.i64.wrap (u0.at_ + s.timeout)), true) := by
        unfold nextR
        rw [hb, hb1, e8, hu0]; rfl
      rw [e]
      exact ⟨⟨rfl, rfl⟩, Pres.refl _⟩
    · rw [ilt_false] at hb3
      have hu0 : s.units = [] := List.length_eq_zero_iff.1 (by omega)
      have e : nextR s = (0, false) := by
        unfold nextR
        rw [hb, hb1, e8, hu0]; rfl
      simp [hn', kseq_normal, e, Pres.refl]
end Go.Eng.L35
/- Law 35: slices.Delete from the head on. -/
namespace Go.Eng.L35
open Go.Proofs Go.Eng
variable [O35]
abbrev zrow78 : List AV := [i64 0, .bool false, i64 0, i64 0, .nilsl, i64 0]
omit [O35] in
theorem reps_len78 (n : Nat) : (reps n zrow78).length = n * 6 := by rw [reps_length]; rfl
theorem delete_sp {h : AHeap} {x : AV} {rows : List (List AV)} (hg : Gw h 78 6 x rows) (hl : rows.length ≤ 1000000) {j : Nat} (hj0 : 0 < j) (hj : j ≤ rows.length) :
    Ca Try.prog 56 [x, i64 0, i64 (j : Int)] h fun r h' => Gw h' 78 6 r (rows.drop j) ∧ blk r = blk x ∧ h'.next = h.next ∧ ∀ c, blk x ≠ some c → h'.get c = h.get c := by
  refine ci Try.func56 rfl (by decide) ?_
  intro fr hn hg0
  replace hn : fr.n = 33 := hn
  have h0 : fr.get 0 = some x := hg0 0 (by simp)
  have h1 : fr.get 1 = some (i64 0) := hg0 1 (by simp)
  have h2 : fr.get 2 = some (i64 (j : Int)) := hg0 2 (by simp)
  clear hg0
  show AW _ _ _ _ _
  obtain ⟨hr6, hx⟩ := hg
  rcases hx with ⟨_, h3⟩ | ⟨h3, _⟩ | ⟨b, lb, cs, m, hb, rfl, hc, h3, h4, h5⟩
  · rw [h3] at hj; simp at hj; omega
  · rw [h3] at hj; simp at hj; omega
  have hpl : ∀ (o z l : Nat) (c : Cap), plen Try.prog 53 (.sl b o z l c) = some (i64 (l : Int)) := fun o z l c => by simp [plen, sl53]
  have hs3 : pslice Try.prog 53 (.sl b 0 0 rows.length (.op 6 lb)) (some (i64 0)) (some (i64 (j : Int))) (some (i64 (rows.length : Int))) = some (.sl b 0 0 j (.at_ rows.length)) := by
    have hk : rows.length ≤ Nat.max rows.length lb := Nat.le_max_left _ _
    simp only [pslice, pslice3, sl53, bnd, nat?, Int.natCast_nonneg, if_true, Int.toNat_natCast, sz78, kcap, Int.le_refl, Int.toNat_zero]
    rw [if_pos ⟨by omega, hj, hk⟩, if_pos (by omega)]
    simp
  have hne : ieq 0 (j : Int) = false := by rw [ieq_false]; omega
  simp [hn, h0, h1, h2, hpl, hs3, hne, kseq_normal]
  have hM : rows.length ≤ Nat.max rows.length lb := Nat.le_max_left _ _
  have hsa : pslice Try.prog 53 (.sl b 0 0 rows.length (.op 6 lb)) none (some (i64 0)) none = some (.sl b 0 0 0 (.op 6 (Nat.max rows.length lb))) := by
    simp only [pslice, sl53, bnd, nat?, Int.le_refl, if_true, Int.toNat_zero, sz78]
    rw [if_pos ⟨by omega, by omega, trivial⟩]; simp
  have hsb : pslice Try.prog 53 (.sl b 0 0 rows.length (.op 6 lb)) (some (i64 (j : Int))) none none = some (.sl b (0 + j * 6) 0 (rows.length - j) (.op 6 (Nat.max rows.length lb - j))) := by
    simp only [pslice, sl53, bnd, nat?, Int.natCast_nonneg, if_true, Int.toNat_natCast, sz78]
    rw [if_pos ⟨hj, hM, trivial⟩]; simp
  have hfl := flatten_len hr6
  have hml : rows.length * 6 ≤ m * 6 := Nat.mul_le_mul_right 6 h4
  have hsrc : srcCells Try.prog h 53 (.sl b (0 + j * 6) 0 (rows.length - j) (.op 6 (Nat.max rows.length lb - j))) 6 = some (rows.length - j, (rows.drop j).flatten) := by
    simp only [srcCells, sl53, hc]
    by_cases he : rows.length - j = 0
    · rw [if_pos he, he, List.drop_of_length_le (by omega)]; rfl
    · have e : (cs.drop (0 + j * 6)).take ((rows.length - j) * 6) = (rows.drop j).flatten := by
        rw [Nat.zero_add, ← flatten_drop hr6, ← h5, List.drop_take, show rows.length * 6 - j * 6 = (rows.length - j) * 6 by omega]
      rw [if_neg he, if_pos (by omega), e]
  have hdl : (rows.drop j).flatten.length = (rows.length - j) * 6 := by rw [flatten_len fun a ha => hr6 a (List.mem_of_mem_drop ha), List.length_drop]
  refine AW_region_t _ _ _ _ _ (by kernel_rfl) ?_
  simp [hn, h0, h1, h2, hsa, hsb]
  -- the append
  obtain ⟨ob, cs2, lb2, ha, hob, hl2, ht2, hlb⟩ : ∃ ob cs2 lb2, aappend Try.prog h [53, 53] [.sl b 0 0 0 (.op 6 (Nat.max rows.length lb)), .sl b (j * 6) 0 (rows.length - j) (.op 6 (Nat.max rows.length lb - j))] = some (.sl b 0 0 (rows.length - j) (.op 6 lb2), ob) ∧
      (ob.next = h.next ∧ ob.get b = .cells 78 cs2 (some 0) ∧ ∀ c, b ≠ c → ob.get c = h.get c) ∧ cs2.length = m * 6 ∧ cs2.take ((rows.length - j) * 6) = (rows.drop j).flatten ∧ rows.length ≤ Nat.max (rows.length - j) lb2 := by
    rw [Nat.zero_add] at hsrc
    by_cases he : rows.length - j = 0
    · refine ⟨h, cs, Nat.max rows.length lb, ?_, ⟨rfl, hc, fun _ _ => rfl⟩, h3, by rw [he, List.drop_of_length_le (by omega)]; simp, ?_⟩
      · rw [he] at hsrc ⊢
        simp only [aappend, sl53, sz78, by78, z78, hsrc, if_true]
      · exact Nat.le_trans hM (Nat.le_max_right _ _)
    · refine ⟨h.set b (.cells 78 (splice cs 0 (rows.drop j).flatten) (some 0)), splice cs 0 (rows.drop j).flatten, Nat.max (Nat.max rows.length lb) (0 + (rows.length - j)), ?_, ⟨rfl, by simp, fun c hcb => by rw [AHeap.get_set, if_neg hcb]⟩, ?_, ?_, ?_⟩
      · simp only [aappend, sl53, sz78, by78, z78, hsrc, hc]
        rw [if_neg he, if_neg (by simp), if_pos ⟨by omega, trivial, by omega⟩, if_pos (by omega)]
        simp
      · simp only [splice, List.length_append, List.length_take, List.length_drop, hdl]; omega
      · simp only [splice, List.take_zero, List.nil_append]
        rw [List.take_append_of_le_length (by rw [hdl]; exact Nat.le_refl _), List.take_of_length_le (by rw [hdl]; exact Nat.le_refl _)]
      · exact Nat.le_trans hM (Nat.le_trans (Nat.le_max_left _ _) (Nat.le_max_right _ _))
  rw [ha]
  obtain ⟨o1, o2, o3⟩ := hob
  have hsub : ((rows.length - j : Nat) : Int) = ((rows.length - j : Nat) : Int) := rfl
  generalize hd : rows.length - j = d at *
  have hsc : pslice Try.prog 53 (.sl b 0 0 d (.op 6 lb2)) (some (i64 (d : Int))) (some (i64 (rows.length : Int))) none = some (.sl b (d * 6) 0 (rows.length - d) (.op 6 (Nat.max d lb2 - d))) := by
    simp only [pslice, sl53, bnd, nat?, Int.natCast_nonneg, if_true, Int.toNat_natCast, sz78]
    rw [if_pos ⟨by omega, hlb, trivial⟩]
    simp
  have hclr : aclear Try.prog ob [53] [.sl b (d * 6) 0 (rows.length - d) (.op 6 (Nat.max d lb2 - d))] = some (.tuple [], ob.set b (.cells 78 (splice cs2 (d * 6) (reps (rows.length - d) zrow78)) (some 0))) := by
    simp only [aclear, sl53, z78, o2]
    rw [if_neg (by omega)]
    rw [if_pos ⟨by omega, by rw [show (AV.agg zrow78).cells = zrow78 from rfl, reps_len78]; omega, rfl⟩]
    rfl
  simp [hn, h0, h1, h2, hpl, kseq_normal, hsc, hclr]
  refine ⟨⟨fun a ha => hr6 a (List.mem_of_mem_drop ha), .inr (.inr ⟨b, lb2, splice cs2 (d * 6) (reps (rows.length - d) zrow78), m, by simp [o1]; exact hb, by rw [List.length_drop, hd], by simp, ?_, by rw [List.length_drop]; omega, ?_⟩)⟩, rfl, o1, fun c hc => ?_⟩
  · simp only [splice, List.length_append, List.length_take, List.length_drop, reps_len78]; omega
  · rw [List.length_drop, hd, ← ht2]
    simp only [splice]
    rw [List.append_assoc, List.take_append_of_le_length (by rw [List.length_take]; omega), List.take_take, Nat.min_self]
  · have hcb : b ≠ c := fun e => hc (by simp [blk, e])
    rw [if_neg hcb]; exact o3 c hcb
end Go.Eng.L35
