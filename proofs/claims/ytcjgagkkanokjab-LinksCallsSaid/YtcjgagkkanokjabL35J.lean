/- Law 35: the links' states; the small methods. -/
import Derived.Test.YtcjgagkkanokjabL35I
namespace Go.Eng.L35
open Go.Proofs Go.Eng
/-- A unit. -/
structure U where
  last : Bool
  msg : Int
  frag : Int
  at_ : Int
  data : List UInt8
/-- A link. -/
structure S where
  up : List Bool
  size : Int
  quality : Int
  timeout : Int
  clock : Int
  units : List U
  sent : Int
  done : Int
  repeats : Int
  turn : Int
  broke : Bool
  msg : Int
  frag : Int
  part : List UInt8
  acks : List (Int × Int × Int)
/-- The places of a link. -/
structure V where
  bu : Nat
  up : AV
  un : AV
  pt : AV
  ak : AV
  rows : List (List AV)
abbrev pcells (s : S) (v : V) : List AV := [v.up, i64 s.size, i64 s.quality, i64 s.timeout, i64 s.clock, v.un, i64 s.sent, i64 s.done, i64 s.repeats, i64 s.turn, .bool s.broke, i64 2, .bool false, i64 s.msg, i64 s.frag, .nilsl, v.pt, v.ak]
abbrev rcells (s : S) (v : V) : List AV := [v.up, i64 s.size, i64 s.quality, i64 s.timeout, i64 s.clock, v.un, i64 s.sent, i64 s.done, i64 s.repeats, i64 s.turn, .bool s.broke, i64 s.msg, i64 s.frag, v.pt, v.ak]
abbrev urow (u : U) (d : AV) : List AV := [i64 1, .bool u.last, i64 u.msg, i64 u.frag, d, i64 u.at_]
/-- A unit's cells. -/
def UR (h : AHeap) (u : U) (cs : List AV) : Prop := ∃ d, cs = urow u d ∧ Bs h d u.data
inductive URs (h : AHeap) : List U → List (List AV) → Prop
  | nil : URs h [] []
  | cons {u us cs rows} : UR h u cs → URs h us rows → URs h (u :: us) (cs :: rows)
def arow (a : Int × Int × Int) : List AV := [i64 a.1, i64 2, .bool false, i64 a.2.1, i64 a.2.2, .nilsl]
/-- Whether wires are up. -/
def Ups (h : AHeap) (b : Nat) (x : AV) (l : List Bool) : Prop := ∃ z cap cs, x = .sl b 0 z l.length cap ∧ b < h.next ∧ h.get b = .cells 4 cs (some 0) ∧ l.length ≤ cs.length ∧ cs.take l.length = l.map .bool ∧ Cok 1 l.length cap
/-- The block of the data of a row. -/
def rowB (row : List AV) : Option Nat := match row[4]? with | some d => blk d | none => none
/-- The blocks that a link writes. -/
def V.W (v : V) (p : Nat) (c : Nat) : Prop := c = p ∨ c = v.bu ∨ blk v.un = some c ∨ blk v.ak = some c
/-- The blocks that a link reads. -/
def V.R (v : V) (c : Nat) : Prop := ∃ row ∈ v.rows, rowB row = some c
structure PL (h : AHeap) (p : Nat) (s : S) (v : V) : Prop where
  cells : h.get p = .cells 56 (pcells s v) (some 0)
  lt : p < h.next
  up : Ups h v.bu v.up s.up
  un : Gw h 78 6 v.un v.rows
  us : URs h s.units v.rows
  pt : Gf h 5 1 v.pt (byt s.part)
  ak : Gw h 82 6 v.ak (s.acks.map arow)
  sep : ∀ c, v.R c → ¬ v.W p c ∧ blk v.pt ≠ some c
structure RL (h : AHeap) (p : Nat) (s : S) (v : V) : Prop where
  cells : h.get p = .cells 60 (rcells s v) (some 0)
  lt : p < h.next
  up : Ups h v.bu v.up s.up
  un : Gw h 94 6 v.un v.rows
  us : URs h s.units v.rows
  pt : Bs h v.pt s.part
  ak : Gw h 103 6 v.ak (s.acks.map arow)
  sep : ∀ c, v.R c ∨ blk v.pt = some c → ¬ v.W p c
theorem URs.keep {h h' : AHeap} (hn : h.next ≤ h'.next) : ∀ {us rows}, URs h us rows → (∀ c, (∃ row ∈ rows, rowB row = some c) → c < h.next → h'.get c = h.get c) → URs h' us rows
  | _, _, .nil, _ => .nil
  | _, _, .cons ⟨d, h1, h2⟩ r, hk => .cons ⟨d, h1, Sl.keep h2 hn fun c hc hlt => hk c ⟨_, List.mem_cons_self, by rw [h1]; exact hc⟩ hlt⟩ (URs.keep hn r fun c ⟨row, hm, hr⟩ => hk c ⟨row, List.mem_cons_of_mem _ hm, hr⟩)
theorem URs.length {h : AHeap} : ∀ {us rows}, URs h us rows → us.length = rows.length
  | _, _, .nil => rfl
  | _, _, .cons _ r => by simp [URs.length r]
theorem URs.get {h : AHeap} : ∀ {us rows}, URs h us rows → ∀ (i : Nat) (u : U), us[i]? = some u → ∃ cs, rows[i]? = some cs ∧ UR h u cs
  | _, _, .nil, i, u, hi => by simp at hi
  | _, _, .cons (cs := cs) hu r, 0, u, hi => by simp at hi; subst hi; exact ⟨cs, rfl, hu⟩
  | _, _, .cons hu r, i + 1, u, hi => by simp at hi; obtain ⟨cs, h1, h2⟩ := URs.get r i u hi; exact ⟨cs, by simpa using h1, h2⟩
theorem URs.lt {h : AHeap} : ∀ {us rows}, URs h us rows → ∀ c, (∃ row ∈ rows, rowB row = some c) → c < h.next
  | _, _, .nil, c, ⟨row, hm, _⟩ => by cases hm
  | _, _, .cons ⟨d, h1, h2⟩ r, c, ⟨row, hm, hc⟩ => by
    rcases List.mem_cons.1 hm with e | hm
    · rw [e, h1] at hc; exact Sl.blk_lt h2 hc
    · exact URs.lt r c ⟨row, hm, hc⟩
theorem Ups.keep {h h' : AHeap} {b : Nat} {x : AV} {l : List Bool} (hu : Ups h b x l) (hn : h.next ≤ h'.next) (hg : h'.get b = h.get b) : Ups h' b x l := by
  obtain ⟨z, cap, cs, h1, h2, h3, h4⟩ := hu
  exact ⟨z, cap, cs, h1, by omega, by rw [hg, h3], h4⟩
theorem Gw.ty {h : AHeap} {e n : Nat} {x : AV} {l : List (List AV)} (hg : Gw h e n x l) {c : Nat} (hc : blk x = some c) : ∃ cs, h.get c = .cells e cs (some 0) := by
  rcases hg.2 with ⟨rfl, _⟩ | ⟨_, b, _, rfl, h1⟩ | ⟨b, lb, cs, m, _, rfl, h1, _⟩
  · simp [blk] at hc
  · simp only [blk, Option.some.injEq] at hc; subst hc; exact ⟨_, h1⟩
  · simp only [blk, Option.some.injEq] at hc; subst hc; exact ⟨_, h1⟩
theorem ne_ty {h : AHeap} {a b : Nat} {t1 t2 : TypeId} {c1 c2 : List AV} {w1 w2 : Option Nat} (h1 : h.get a = .cells t1 c1 w1) (h2 : h.get b = .cells t2 c2 w2) (hne : t1 ≠ t2) : a ≠ b := fun e => by
  subst e; rw [h1] at h2; cases h2; exact hne rfl
theorem Ups.ty {h : AHeap} {b : Nat} {x : AV} {l : List Bool} (hu : Ups h b x l) : ∃ cs, h.get b = .cells 4 cs (some 0) := by
  obtain ⟨_, _, cs, _, _, h3, _⟩ := hu; exact ⟨cs, h3⟩
theorem Ups.lt {h : AHeap} {b : Nat} {x : AV} {l : List Bool} (hu : Ups h b x l) : b < h.next := by
  obtain ⟨_, _, cs, _, h2, _⟩ := hu; exact h2
theorem V.W_lt {h : AHeap} {p : Nat} {v : V} {us : List Bool} {e1 e2 n1 n2 : Nat} {l1 l2 : List (List AV)} (hp : p < h.next) (hu : Ups h v.bu v.up us) (h1 : Gw h e1 n1 v.un l1) (h2 : Gw h e2 n2 v.ak l2) : ∀ c, v.W p c → c < h.next := by
  rintro c (rfl | rfl | hc | hc)
  · exact hp
  · exact hu.lt
  · exact h1.blk_lt hc
  · exact h2.blk_lt hc
/-- What a link does not write stays, and with it the other link. -/
theorem PL.keep {h h' : AHeap} {p : Nat} {s : S} {v : V} (hp : PL h p s v) (hn : h.next ≤ h'.next) (hk : ∀ c, c < h.next → v.W p c ∨ v.R c ∨ blk v.pt = some c → h'.get c = h.get c) : PL h' p s v :=
  ⟨(hk p hp.lt (.inl (.inl rfl))).trans hp.cells, Nat.lt_of_lt_of_le hp.lt hn, hp.up.keep hn (hk _ (by obtain ⟨_, _, _, _, h2, _⟩ := hp.up; exact h2) (.inl (.inr (.inl rfl)))),
    hp.un.keep hn fun c hc hlt => hk c hlt (.inl (.inr (.inr (.inl hc)))), hp.us.keep hn fun c hc hlt => hk c hlt (.inr (.inl hc)), hp.pt.keep hn fun c hc hlt => hk c hlt (.inr (.inr hc)),
    hp.ak.keep hn fun c hc hlt => hk c hlt (.inl (.inr (.inr (.inr hc)))), hp.sep⟩
theorem RL.keep {h h' : AHeap} {p : Nat} {s : S} {v : V} (hp : RL h p s v) (hn : h.next ≤ h'.next) (hk : ∀ c, c < h.next → v.W p c ∨ v.R c ∨ blk v.pt = some c → h'.get c = h.get c) : RL h' p s v :=
  ⟨(hk p hp.lt (.inl (.inl rfl))).trans hp.cells, Nat.lt_of_lt_of_le hp.lt hn, hp.up.keep hn (hk _ (by obtain ⟨_, _, _, _, h2, _⟩ := hp.up; exact h2) (.inl (.inr (.inl rfl)))),
    hp.un.keep hn fun c hc hlt => hk c hlt (.inl (.inr (.inr (.inl hc)))), hp.us.keep hn fun c hc hlt => hk c hlt (.inr (.inl hc)), Sl.keep hp.pt hn fun c hc hlt => hk c hlt (.inr (.inr hc)),
    hp.ak.keep hn fun c hc hlt => hk c hlt (.inl (.inr (.inr (.inr hc)))), hp.sep⟩
theorem PL.pres {h h' : AHeap} {p : Nat} {s : S} {v : V} (hp : PL h p s v) (hq : Pres h h') : PL h' p s v := hp.keep hq.1 fun c hc _ => hq.2 c hc
theorem RL.pres {h h' : AHeap} {p : Nat} {s : S} {v : V} (hp : RL h p s v) (hq : Pres h h') : RL h' p s v := hp.keep hq.1 fun c hc _ => hq.2 c hc
/-- The error of a time. -/
def timeE (s : S) (now : Int) : Int := if ilt now 0 || ilt 1099511627776 now then 34 else if ilt now s.clock then 30 else if s.broke then 4 else 0
variable [O35]
theorem ptime_sp {h : AHeap} {p : Nat} {s : S} {v : V} (hp : PL h p s v) (now : Int) : Ca Try.prog 30 [.ptr p 0, i64 now] h fun r h' => r = i64 (timeE s now) ∧ h' = h := by
  refine ci Try.func30 rfl (by decide) ?_
  intro fr hn hg
  replace hn : fr.n = 24 := hn
  have h0 : fr.get 0 = some (.ptr p 0) := hg 0 (by simp)
  have h1 : fr.get 1 = some (i64 now) := hg 1 (by simp)
  clear hg
  show AW _ _ _ _ _
  have hc := hp.cells
  simp [hn, h0, h1, hc, kseq_normal]
  repeat' (first | refine Br.mk (fun hb => ?_) (fun hb => ?_) | simp [*, kseq_normal, timeE])
theorem rtime_sp {h : AHeap} {p : Nat} {s : S} {v : V} (hp : RL h p s v) (now : Int) : Ca Try.prog 38 [.ptr p 0, i64 now] h fun r h' => r = i64 (timeE s now) ∧ h' = h := by
  refine ci Try.func38 rfl (by decide) ?_
  intro fr hn hg
  replace hn : fr.n = 21 := hn
  have h0 : fr.get 0 = some (.ptr p 0) := hg 0 (by simp)
  have h1 : fr.get 1 = some (i64 now) := hg 1 (by simp)
  clear hg
  show AW _ _ _ _ _
  have hc := hp.cells
  simp [hn, h0, h1, hc, kseq_normal]
  repeat' (first | refine Br.mk (fun hb => ?_) (fun hb => ?_) | simp [*, kseq_normal, timeE])
theorem pack_sp {h : AHeap} {p : Nat} {s : S} {v : V} (hp : PL h p s v) : Ca Try.prog 26 [.ptr p 0] h fun r h' => r = i64 s.done ∧ h' = h := by
  refine ci Try.func26 rfl (by decide) ?_
  intro fr hn hg
  replace hn : fr.n = 9 := hn
  have h0 : fr.get 0 = some (.ptr p 0) := hg 0 (by simp)
  clear hg
  show AW _ _ _ _ _
  simp [hn, h0, hp.cells, kseq_normal]
theorem rack_sp {h : AHeap} {p : Nat} {s : S} {v : V} (hp : RL h p s v) : Ca Try.prog 27 [.ptr p 0] h fun r h' => r = i64 s.done ∧ h' = h := by
  refine ci Try.func27 rfl (by decide) ?_
  intro fr hn hg
  replace hn : fr.n = 7 := hn
  have h0 : fr.get 0 = some (.ptr p 0) := hg 0 (by simp)
  clear hg
  show AW _ _ _ _ _
  simp [hn, h0, hp.cells, kseq_normal]
theorem pbrk_sp {h : AHeap} {p : Nat} {s : S} {v : V} (hp : PL h p s v) : Ca Try.prog 28 [.ptr p 0] h fun r h' => r = .bool s.broke ∧ h' = h := by
  refine ci Try.func28 rfl (by decide) ?_
  intro fr hn hg
  replace hn : fr.n = 11 := hn
  have h0 : fr.get 0 = some (.ptr p 0) := hg 0 (by simp)
  clear hg
  show AW _ _ _ _ _
  simp [hn, h0, hp.cells, bin2_neq_ptr pt27, kseq_normal]
theorem rbrk_sp {h : AHeap} {p : Nat} {s : S} {v : V} (hp : RL h p s v) : Ca Try.prog 29 [.ptr p 0] h fun r h' => r = .bool s.broke ∧ h' = h := by
  refine ci Try.func29 rfl (by decide) ?_
  intro fr hn hg
  replace hn : fr.n = 7 := hn
  have h0 : fr.get 0 = some (.ptr p 0) := hg 0 (by simp)
  clear hg
  show AW _ _ _ _ _
  simp [hn, h0, hp.cells, kseq_normal]
end Go.Eng.L35
/- Law 35: Set, the wires that are up. -/
namespace Go.Eng.L35
open Go.Proofs Go.Eng
theorem Ups.len {h : AHeap} {b : Nat} {x : AV} {l : List Bool} (hu : Ups h b x l) : plen Try.prog 49 x = some (i64 (l.length : Int)) := by
  obtain ⟨z, cap, cs, rfl, _⟩ := hu
  simp [plen, sl49]
theorem Ups.at {h : AHeap} {b : Nat} {x : AV} {l : List Bool} (hu : Ups h b x l) {i : Nat} (hi : i < l.length) : pindexAddr Try.prog 49 x (i64 (i : Int)) = some (.ptr b i) ∧ atCells Try.prog 4 (h.get b) i = some (.bool l[i]) := by
  obtain ⟨z, cap, cs, rfl, h2, h3, h4, h5, _⟩ := hu
  refine ⟨by simp [pindexAddr, nat?, sl49, sz4, hi], ?_⟩
  rw [h3, ac4]
  have := congrArg (fun l : List AV => l[i]?) h5
  simp only [List.getElem?_take, if_pos hi, List.getElem?_map, List.getElem?_eq_getElem hi, Option.map_some] at this
  exact this
theorem Ups.set {h : AHeap} {b : Nat} {x : AV} {l : List Bool} (hu : Ups h b x l) {i : Nat} (hi : i < l.length) (c : Bool) : ∃ ob, stc Try.prog 4 (h.get b) i (.bool c) = some ob ∧ Ups (h.set b ob) b x (l.set i c) := by
  obtain ⟨z, cap, cs, rfl, h2, h3, h4, h5, h6⟩ := hu
  refine ⟨.cells 4 (cs.set i (.bool c)) (some 0), by rw [h3, stc_one sz4 (by omega) rfl rfl], z, cap, cs.set i (.bool c), by simp, by simpa using h2, by simp, by simpa using h4, ?_, by simpa using h6⟩
  rw [List.length_set, List.take_set, h5, List.map_set]
theorem get_ne {h : AHeap} {b c : Nat} (ob : AObj) (hne : b ≠ c) : (h.set b ob).get c = h.get c := by rw [AHeap.get_set, if_neg hne]
theorem PL.set_up {h : AHeap} {p : Nat} {s : S} {v : V} (hp : PL h p s v) {ob : AObj} {l : List Bool} (hu : Ups (h.set v.bu ob) v.bu v.up l) : PL (h.set v.bu ob) p { s with up := l } v := by
  obtain ⟨cs, hcs⟩ := hp.up.ty
  have k1 : v.bu ≠ p := ne_ty hcs hp.cells (by decide)
  refine ⟨(get_ne ob k1).trans hp.cells, by simpa using hp.lt, hu, hp.un.keep (by simp) fun c hc _ => get_ne ob ?_, hp.us.keep (by simp) fun c hc _ => get_ne ob fun e => (hp.sep c hc).1 (.inr (.inl e.symm)), hp.pt.keep (by simp) fun c hc _ => get_ne ob ?_, hp.ak.keep (by simp) fun c hc _ => get_ne ob ?_, hp.sep⟩
  · obtain ⟨_, h1⟩ := Gw.ty hp.un hc; exact ne_ty hcs h1 (by decide)
  · obtain ⟨_, h1⟩ := Gw.ty hp.pt.gw hc; exact ne_ty hcs h1 (by decide)
  · obtain ⟨_, h1⟩ := Gw.ty hp.ak hc; exact ne_ty hcs h1 (by decide)
theorem RL.set_up {h : AHeap} {p : Nat} {s : S} {v : V} (hp : RL h p s v) {ob : AObj} {l : List Bool} (hu : Ups (h.set v.bu ob) v.bu v.up l) : RL (h.set v.bu ob) p { s with up := l } v := by
  obtain ⟨cs, hcs⟩ := hp.up.ty
  have k1 : v.bu ≠ p := ne_ty hcs hp.cells (by decide)
  refine ⟨(get_ne ob k1).trans hp.cells, by simpa using hp.lt, hu, hp.un.keep (by simp) fun c hc _ => get_ne ob ?_, hp.us.keep (by simp) fun c hc _ => get_ne ob fun e => hp.sep c (.inl hc) (.inr (.inl e.symm)), Sl.keep hp.pt (by simp) fun c hc _ => get_ne ob fun e => hp.sep c (.inr hc) (.inr (.inl e.symm)), hp.ak.keep (by simp) fun c hc _ => get_ne ob ?_, hp.sep⟩
  · obtain ⟨_, h1⟩ := Gw.ty hp.un hc; exact ne_ty hcs h1 (by decide)
  · obtain ⟨_, h1⟩ := Gw.ty hp.ak hc; exact ne_ty hcs h1 (by decide)
/-- Set. -/
def setE (s : S) (wire : Int) : Int := if ilt wire 0 || !(ilt wire (s.up.length : Int)) then 3 else 0
def setS (s : S) (wire : Int) (c : Bool) : S := if setE s wire = 0 then { s with up := s.up.set wire.toNat c } else s
variable [O35]
theorem pset_sp {h : AHeap} {p : Nat} {s : S} {v : V} (hp : PL h p s v) (wire : Int) (c : Bool) : Ca Try.prog 14 [.ptr p 0, i64 wire, .bool c] h fun r h' => r = i64 (setE s wire) ∧ PL h' p (setS s wire c) v ∧ h'.next = h.next ∧ ∀ d, ¬ v.W p d → h'.get d = h.get d := by
  refine ci Try.func14 rfl (by decide) ?_
  intro fr hn hg
  replace hn : fr.n = 27 := hn
  have h0 : fr.get 0 = some (.ptr p 0) := hg 0 (by simp)
  have h1 : fr.get 1 = some (i64 wire) := hg 1 (by simp)
  have h2 : fr.get 2 = some (.bool c) := hg 2 (by simp)
  clear hg
  show AW _ _ _ _ _
  have hc := hp.cells
  have hl := hp.up.len
  have same : setE s wire ≠ 0 → PL h p (setS s wire c) v := fun he => by unfold setS; rw [if_neg he]; exact hp
  simp [hn, h0, h1, h2, hc, hl, kseq_normal]
  refine Br.mk (fun hb => ?_) (fun hb => ?_)
  · have e : setE s wire = 3 := by simp [setE, hb]
    simp [hb, hn, kseq_normal, e]
    exact same (by omega)
  simp [hb, hn, h0, h1, h2, hc, hl, kseq_normal]
  refine Br.mk (fun hb2 => ?_) (fun hb2 => ?_)
  · have e0 : setE s wire = 0 := by simp [setE, hb, hb2]
    rw [ilt_false] at hb
    rw [ilt_true] at hb2
    obtain ⟨w, rfl⟩ := Int.eq_ofNat_of_zero_le hb
    obtain ⟨hix, _⟩ := hp.up.at (i := w) (by omega)
    obtain ⟨ob, hst, hup⟩ := hp.up.set (i := w) (by omega) c
    simp [hn, h0, h1, h2, hc, hix, hst, kseq_normal]
    refine ⟨e0.symm, ?_, fun d hd e => absurd (.inr (.inl e.symm)) hd⟩
    unfold setS
    rw [if_pos e0, Int.toNat_natCast]
    exact hp.set_up hup
  · have e : setE s wire = 3 := by simp [setE, hb2]
    simp [hb2, hn, kseq_normal, e]
    exact same (by omega)
theorem rset_sp {h : AHeap} {p : Nat} {s : S} {v : V} (hp : RL h p s v) (wire : Int) (c : Bool) : Ca Try.prog 15 [.ptr p 0, i64 wire, .bool c] h fun r h' => r = i64 (setE s wire) ∧ RL h' p (setS s wire c) v ∧ h'.next = h.next ∧ ∀ d, ¬ v.W p d → h'.get d = h.get d := by
  refine ci Try.func15 rfl (by decide) ?_
  intro fr hn hg
  replace hn : fr.n = 25 := hn
  have h0 : fr.get 0 = some (.ptr p 0) := hg 0 (by simp)
  have h1 : fr.get 1 = some (i64 wire) := hg 1 (by simp)
  have h2 : fr.get 2 = some (.bool c) := hg 2 (by simp)
  clear hg
  show AW _ _ _ _ _
  have hc := hp.cells
  have hl := hp.up.len
  have same : setE s wire ≠ 0 → RL h p (setS s wire c) v := fun he => by unfold setS; rw [if_neg he]; exact hp
  simp [hn, h0, h1, h2, hc, hl, kseq_normal]
  refine Br.mk (fun hb => ?_) (fun hb => ?_)
  · have e : setE s wire = 3 := by simp [setE, hb]
    simp [hb, hn, kseq_normal, e]
    exact same (by omega)
  simp [hb, hn, h0, h1, h2, hc, hl, kseq_normal]
  refine Br.mk (fun hb2 => ?_) (fun hb2 => ?_)
  · have e0 : setE s wire = 0 := by simp [setE, hb, hb2]
    rw [ilt_false] at hb
    rw [ilt_true] at hb2
    obtain ⟨w, rfl⟩ := Int.eq_ofNat_of_zero_le hb
    obtain ⟨hix, _⟩ := hp.up.at (i := w) (by omega)
    obtain ⟨ob, hst, hup⟩ := hp.up.set (i := w) (by omega) c
    simp [hn, h0, h1, h2, hc, hix, hst, kseq_normal]
    refine ⟨e0.symm, ?_, fun d hd e => absurd (.inr (.inl e.symm)) hd⟩
    unfold setS
    rw [if_pos e0, Int.toNat_natCast]
    exact hp.set_up hup
  · have e : setE s wire = 3 := by simp [setE, hb2]
    simp [hb2, hn, kseq_normal, e]
    exact same (by omega)
/-! ### usable -/
def usb (l : List Bool) : List Nat := (List.range l.length).filter fun i => l[i]? == some true
def usbT (l : List Bool) (k : Nat) : List Nat := (List.range k).filter fun i => l[i]? == some true
omit [O35] in
theorem usbT_succ {l : List Bool} {k : Nat} (hk : k < l.length) : usbT l (k + 1) = if l[k] = true then usbT l k ++ [k] else usbT l k := by
  unfold usbT
  rw [List.range_succ, List.filter_append]
  have : (l[k]? == some true) = l[k] := by rw [List.getElem?_eq_getElem hk]; cases l[k] <;> rfl
  by_cases hb : l[k] = true
  · rw [if_pos hb]; simp [this, hb]
  · rw [if_neg hb]; simp [this, hb]
omit [O35] in
theorem usbT_len (l : List Bool) (k : Nat) : (usbT l k).length ≤ k := Nat.le_trans (List.length_filter_le _ _) (by simp)
/-- The cells of whole numbers. -/
def ints (l : List Nat) : List (List AV) := l.map fun (i : Nat) => [i64 (i : Int)]
omit [O35] in
theorem ints_len (l : List Nat) : ∀ a ∈ ints l, a.length = 1 := fun a ha => by obtain ⟨b, _, rfl⟩ := List.mem_map.1 ha; rfl
omit [O35] in
theorem pbs79_1 (n : Int) : pbs Try.prog 79 1 [(0, i64 n)] = some (3, [i64 n], .sl 1 1) := by kernel_rfl
omit [O35] in
theorem pbs79_0 : pbs Try.prog 79 0 [] = some (3, [], .sl 0 0) := by kernel_rfl
omit [O35] in
theorem appI {h0 h : AHeap} {x : AV} {l : List Nat} (hp : Pres h0 h) (hf : Fresh h0 x) (hg : Gf h 3 1 x (ints l)) (n : Nat) (hl : l.length ≤ 1000) :
    ∃ x' h', aappend Try.prog (h.new (.cells 3 [i64 (n : Int)] (some 0))) [79, 79] [x, .sl h.next 0 0 1 (.at_ 1)] = some (x', h') ∧ Gf h' 3 1 x' (ints (l ++ [n])) ∧ Pres h0 h' ∧ Fresh h0 x' := by
  have hp1 : Pres h (h.new (.cells 3 [i64 (n : Int)] (some 0))) := (Pres.refl h).new _
  have hs : Sl (h.new (.cells 3 [i64 (n : Int)] (some 0))) 1 (.sl h.next 0 0 1 (.at_ 1)) (ints [n]) := by
    have := Sl.whole (h := h.new (.cells 3 [i64 (n : Int)] (some 0))) (b := h.next) (z := 0) (c := .at_ 1) (cs := [i64 (n : Int)]) (ty := 3) (wr := some 0) (n := 1) (by simp) (by simp) rfl (Nat.le_refl 1)
    simpa [ints] using this
  obtain ⟨x', h', h1, h2, h3⟩ := (hg.pres hp1).append sl79 sz3 by3 z3 rfl (by omega) (hs.src sl79) (ints_len _) (by simp [ints]; omega) (by simp [ints]; omega)
  obtain ⟨h4, h5⟩ := Pres.grown (hp.trans hp1) hf h3
  exact ⟨x', h', h1, by simpa [ints] using h2, h4, h5⟩
theorem pusb_sp {h : AHeap} {p : Nat} {s : S} {v : V} (hp : PL h p s v) (hl : s.up.length ≤ 8) : Ca Try.prog 32 [.ptr p 0] h fun r h' => Gf h' 3 1 r (ints (usb s.up)) ∧ Pres h h' ∧ Fresh h r := by
  refine ci Try.func32 rfl (by decide) ?_
  intro fr hn hg
  replace hn : fr.n = 23 := hn
  have h0 : fr.get 0 = some (.ptr p 0) := hg 0 (by simp)
  clear hg
  show AW _ _ _ _ _
  simp [hn, h0, hp.cells, hp.up.len, kseq_normal]
  refine AW_loop_fr (fun m fr' h' => ∃ k y, m = s.up.length - k ∧ k ≤ s.up.length ∧ fr'.get 3 = some y ∧ fr'.get 11 = some (i64 (k : Nat)) ∧ Gf h' 3 1 y (ints (usbT s.up k)) ∧ Pres h h' ∧ Fresh h y) s.up.length
    ⟨0, .nilsl, by simp, by omega, by simp, by simp, by simpa [usbT, ints] using Gf.nil _ _ _, Pres.refl h, fun b hb => by simp [blk] at hb⟩ ?_
  rintro J hJ m fr' h' ⟨k, y, rfl, hk, h3, h11, hg, hpr, hf⟩ hfr
  have hn' : fr'.n = 23 := hfr.1.trans (by simp [hn])
  have h9 : fr'.get 9 = some v.up := (hfr.2 9 (by kernel_rfl)).trans (by simp)
  have h10 : fr'.get 10 = some (i64 (s.up.length : Int)) := (hfr.2 10 (by kernel_rfl)).trans (by simp)
  clear hfr
  have hup := hp.up.keep hpr.1 (hpr.2 _ hp.up.lt)
  simp [hn', h9, h10, h11, kseq_normal]
  refine Br.mk (fun hb => ?_) (fun hb => ?_)
  · have hk : k < s.up.length := by rw [ilt_true] at hb; omega
    obtain ⟨hix, hat⟩ := hup.at hk
    have hsu := usbT_succ hk
    simp [hn', h9, h10, h11, hix, hat, kseq_normal]
    refine Br.mk (fun hc => ?_) (fun hc => ?_)
    · obtain ⟨y', h2, ha, hg2, hp2, hf2⟩ := appI hpr hf hg k (by have := usbT_len s.up k; omega)
      simp [hn', h3, h11, pbs79_1, kseq_normal]
      rw [ha]
      simp [hn', h11, kseq_normal]
      rw [kloop_normal]
      refine ⟨s.up.length - (k + 1), by omega, hJ _ _ _ ⟨k + 1, y', rfl, by omega, by simp, by simp [wrap_nat k (by omega)], ?_, hp2, hf2⟩⟩
      rw [hsu, if_pos hc]; exact hg2
    · simp [hn', h3, h11, kseq_normal]
      rw [kloop_normal]
      refine ⟨s.up.length - (k + 1), by omega, hJ _ _ _ ⟨k + 1, y, rfl, by omega, by simp [h3], by simp [wrap_nat k (by omega)], ?_, hpr, hf⟩⟩
      rw [hsu, if_neg (by simp [hc])]; exact hg
  · have : k = s.up.length := by rw [ilt_false] at hb; omega
    subst this
    simp [hn', h3, kseq_normal]
    exact ⟨hg, hpr, hf⟩
theorem rusb_sp {h : AHeap} {p : Nat} {s : S} {v : V} (hp : RL h p s v) (hl : s.up.length ≤ 8) : Ca Try.prog 43 [.ptr p 0] h fun r h' => Gf h' 3 1 r (ints (usb s.up)) ∧ Pres h h' ∧ Fresh h r := by
  refine ci Try.func43 rfl (by decide) ?_
  intro fr hn hg
  replace hn : fr.n = 27 := hn
  have h0 : fr.get 0 = some (.ptr p 0) := hg 0 (by simp)
  clear hg
  show AW _ _ _ _ _
  simp [hn, h0, pbs79_0, kseq_normal]
  refine AW_loop_fr (fun m fr' h' => ∃ k y, m = s.up.length - k ∧ k ≤ s.up.length ∧ fr'.get 3 = some y ∧ fr'.get 4 = some (i64 (k : Nat)) ∧ Gf h' 3 1 y (ints (usbT s.up k)) ∧ Pres h h' ∧ Fresh h y) s.up.length
    ⟨0, _, by simp, by omega, by simp; rfl, by simp, by simpa [usbT, ints] using Gf.empty, (Pres.refl h).new _, fun b hb => by simp [blk] at hb; omega⟩ ?_
  rintro J hJ m fr' h' ⟨k, y, rfl, hk, h3, h4, hg, hpr, hf⟩ hfr
  have hn' : fr'.n = 27 := hfr.1.trans (by simp [hn])
  have h0' : fr'.get 0 = some (.ptr p 0) := (hfr.2 0 (by kernel_rfl)).trans (by simp [h0])
  clear hfr
  have hpl := hp.pres hpr
  have hc := hpl.cells
  have hup := hpl.up
  simp [hn', h0', h4, hc, hup.len, kseq_normal]
  refine Br.mk (fun hb => ?_) (fun hb => ?_)
  · have hk : k < s.up.length := by rw [ilt_true] at hb; omega
    obtain ⟨hix, hat⟩ := hup.at hk
    have hsu := usbT_succ hk
    simp [hn', h0', h4, hc, hix, hat, kseq_normal]
    refine Br.mk (fun hc => ?_) (fun hc => ?_)
    · obtain ⟨y', h2, ha, hg2, hp2, hf2⟩ := appI hpr hf hg k (by have := usbT_len s.up k; omega)
      simp [hn', h3, h4, pbs79_1, kseq_normal]
      rw [ha]
      simp [hn', h4, kseq_normal]
      rw [kloop_normal]
      refine ⟨s.up.length - (k + 1), by omega, hJ _ _ _ ⟨k + 1, y', rfl, by omega, by simp, by simp [wrap_nat k (by omega)], ?_, hp2, hf2⟩⟩
      rw [hsu, if_pos hc]; exact hg2
    · simp [hn', h3, h4, kseq_normal]
      rw [kloop_normal]
      refine ⟨s.up.length - (k + 1), by omega, hJ _ _ _ ⟨k + 1, y, rfl, by omega, by simp [h3], by simp [wrap_nat k (by omega)], ?_, hpr, hf⟩⟩
      rw [hsu, if_neg (by simp [hc])]; exact hg
  · have : k = s.up.length := by rw [ilt_false] at hb; omega
    subst this
    simp [hn', h3, kseq_normal]
    exact ⟨hg, hpr, hf⟩
end Go.Eng.L35
