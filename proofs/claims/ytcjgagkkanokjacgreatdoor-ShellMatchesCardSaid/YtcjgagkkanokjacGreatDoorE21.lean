/- The engine, part 21: slices that are read; slices that grow by append. -/
import Derived.Test.YtcjgagkkanokjacGreatDoorE20
namespace Go.Eng

/-- Cell number i of a list of equal chunks. -/
theorem flatten_len {α : Type} {n : Nat} : ∀ {l : List (List α)}, (∀ a ∈ l, a.length = n) → l.flatten.length = l.length * n
  | [], _ => by simp
  | a :: l, h => by
    rw [List.flatten_cons, List.length_append, h a (by simp), flatten_len fun b hb => h b (by simp [hb]), List.length_cons, Nat.succ_mul, Nat.add_comm]
theorem flatten_at {α : Type} {n : Nat} : ∀ {l : List (List α)}, (∀ a ∈ l, a.length = n) → ∀ (i : Nat) (hi : i < l.length), (l.flatten.drop (i * n)).take n = l[i]
  | [], _, i, hi => by simp at hi
  | a :: l, h, 0, _ => by
    have := h a (by simp)
    simp [← this]
  | a :: l, h, i + 1, hi => by
    have e := h a (by simp)
    rw [List.flatten_cons, Nat.succ_mul, Nat.add_comm, ← List.drop_drop]
    rw [show (a ++ l.flatten).drop n = l.flatten by rw [← e]; simp]
    rw [flatten_at (fun b hb => h b (by simp [hb])) i (by simpa using hi)]
    simp

/-- What is known of the capacity of a slice of len chunks of n cells. -/
def Cok (n len : Nat) : Cap → Prop
  | .at_ k => len ≤ k
  | .op s _ => s = n
/-- A value that reads as a slice of chunks of n cells. -/
def Sl (h : AHeap) (n : Nat) (x : AV) (l : List (List AV)) : Prop :=
  (∀ a ∈ l, a.length = n) ∧ ((x = .nilsl ∧ l = []) ∨ (∃ b o z c ty cs wr, x = .sl b o z l.length c ∧ b < h.next ∧ h.get b = .cells ty cs wr ∧ o + l.length * n ≤ cs.length ∧ (cs.drop o).take (l.length * n) = l.flatten ∧ Cok n l.length c) ∨ (l = [] ∧ ∃ b o z c, b < h.next ∧ x = .sl b o z 0 c ∧ Cok n 0 c))
theorem Sl.nil (h : AHeap) (n : Nat) : Sl h n .nilsl [] := ⟨by simp, .inl ⟨rfl, rfl⟩⟩
def blk (x : AV) : Option Nat := match x with | .sl b _ _ _ _ => some b | _ => none
theorem Sl.keep {h h' : AHeap} {n : Nat} {x : AV} {l : List (List AV)} (hs : Sl h n x l) (hn : h.next ≤ h'.next) (hg : ∀ b, blk x = some b → b < h.next → h'.get b = h.get b) : Sl h' n x l := by
  obtain ⟨h1, h2⟩ := hs
  refine ⟨h1, ?_⟩
  rcases h2 with h2 | ⟨b, o, z, c, ty, cs, wr, rfl, h3, h4, h5, h6, h7⟩ | ⟨h2, b, o, z, c, h3, h4, h5⟩
  · exact .inl h2
  · exact .inr (.inl ⟨b, o, z, c, ty, cs, wr, rfl, by omega, by rw [hg b rfl h3, h4], h5, h6, h7⟩)
  · exact .inr (.inr ⟨h2, b, o, z, c, by omega, h4, h5⟩)
theorem Sl.mono {h h' : AHeap} {n : Nat} {x : AV} {l : List (List AV)} (hs : Sl h n x l) (hn : h.next ≤ h'.next) (hg : ∀ b, b < h.next → h'.get b = h.get b) : Sl h' n x l := hs.keep hn fun b _ hb => hg b hb
theorem Sl.pres {h h' : AHeap} {n : Nat} {x : AV} {l : List (List AV)} (hs : Sl h n x l) (hp : Pres h h') : Sl h' n x l := hs.mono hp.1 hp.2
theorem Sl.blk_lt {h : AHeap} {n : Nat} {x : AV} {l : List (List AV)} (hs : Sl h n x l) {b : Nat} (hb : blk x = some b) : b < h.next := by
  rcases hs.2 with ⟨rfl, _⟩ | ⟨c, o, z, cp, ty, cs, wr, rfl, h3, _⟩ | ⟨_, c, o, z, cp, h3, rfl, _⟩
  · simp [blk] at hb
  · simp only [blk, Option.some.injEq] at hb; subst hb; exact h3
  · simp only [blk, Option.some.injEq] at hb; subst hb; exact h3
theorem Sl.len {P : Program} {h : AHeap} {n : Nat} {x : AV} {l : List (List AV)} (hs : Sl h n x l) {t e : TypeId} (hu : P.underlying t = some (.slice e)) : plen P t x = some (.int .i64 (l.length : Int)) := by
  rcases hs.2 with ⟨rfl, rfl⟩ | ⟨b, o, z, c, ty, cs, wr, rfl, _⟩ | ⟨rfl, b, o, z, c, _, rfl, _⟩
  · simp [plen, hu]
  · simp [plen, hu]
  · simp [plen, hu]
theorem take_drop_take {α : Type} (l : List α) (o i n m : Nat) (h : i + n ≤ m) : (l.drop (o + i)).take n = (((l.drop o).take m).drop i).take n := by
  rw [List.drop_take, List.take_take, List.drop_drop, Nat.min_eq_left (by omega)]
theorem chunk_le {i n k : Nat} (hi : i < k) : i * n + n ≤ k * n := by
  rw [← Nat.succ_mul]; exact Nat.mul_le_mul_right n hi
/-- An element: its address, and what its cells are. -/
theorem Sl.at_blk {P : Program} {h : AHeap} {n : Nat} {x : AV} {l : List (List AV)} (hs : Sl h n x l) {t e : TypeId} (hu : P.underlying t = some (.slice e)) (hz : tsz P e = some n) (i : Nat) (hi : i < l.length) :
    ∃ b o, blk x = some b ∧ pindexAddr P t x (.int .i64 (i : Int)) = some (.ptr b o) ∧ b < h.next ∧
      (isAggT P e = some true → atCells P e (h.get b) o = some (.agg l[i])) ∧ ∀ f s, isAggT P s = some false → f < n → atCells P s (h.get b) (o + f) = l[i][f]? := by
  obtain ⟨h1, h2⟩ := hs
  rcases h2 with ⟨_, rfl⟩ | ⟨b, o, z, c, ty, cs, wr, rfl, h3, h4, h5, h6, _⟩ | ⟨rfl, _⟩
  · simp at hi
  case inr.inr => simp at hi
  have hc : (cs.drop (o + i * n)).take n = l[i] := by
    rw [take_drop_take cs o (i * n) n (l.length * n) (chunk_le hi), h6, flatten_at h1 i hi]
  have hle := chunk_le (n := n) hi
  refine ⟨b, o + i * n, rfl, ?_, h3, fun ha => ?_, fun f s ha hf => ?_⟩
  · simp [pindexAddr, nat?, hu, hz, hi]
  · rw [h4, atCells_agg ha hz, if_pos (by omega), hc]
  · rw [h4, atCells_one ha, ← hc, List.getElem?_take, if_pos hf, List.getElem?_drop]
theorem Sl.at {P : Program} {h : AHeap} {n : Nat} {x : AV} {l : List (List AV)} (hs : Sl h n x l) {t e : TypeId} (hu : P.underlying t = some (.slice e)) (hz : tsz P e = some n) (i : Nat) (hi : i < l.length) :
    ∃ b o, pindexAddr P t x (.int .i64 (i : Int)) = some (.ptr b o) ∧ b < h.next ∧
      (isAggT P e = some true → atCells P e (h.get b) o = some (.agg l[i])) ∧ ∀ f s, isAggT P s = some false → f < n → atCells P s (h.get b) (o + f) = l[i][f]? :=
  let ⟨b, o, _, h⟩ := hs.at_blk hu hz i hi
  ⟨b, o, h⟩
/-- An element of a slice of values of one cell. -/
theorem Sl.at1 {P : Program} {h : AHeap} {x : AV} {l : List AV} (hs : Sl h 1 x (l.map fun v => [v])) {t e : TypeId} (hu : P.underlying t = some (.slice e)) (hz : tsz P e = some 1) (ha : isAggT P e = some false) (i : Nat) (hi : i < l.length) :
    ∃ b o, pindexAddr P t x (.int .i64 (i : Int)) = some (.ptr b o) ∧ b < h.next ∧ atCells P e (h.get b) o = some l[i] := by
  obtain ⟨b, o, h1, h2, _, h3⟩ := hs.at hu hz i (by simpa using hi)
  refine ⟨b, o, h1, h2, ?_⟩
  have := h3 0 e ha (by omega)
  simpa using this
theorem flatten_drop {α : Type} {n : Nat} : ∀ {l : List (List α)}, (∀ a ∈ l, a.length = n) → ∀ i, l.flatten.drop (i * n) = (l.drop i).flatten
  | [], _, i => by simp
  | a :: l, h, 0 => by simp
  | a :: l, h, i + 1 => by
    have e := h a (by simp)
    rw [List.flatten_cons, Nat.succ_mul, Nat.add_comm, ← List.drop_drop]
    rw [show (a ++ l.flatten).drop n = l.flatten by rw [← e]; simp]
    rw [flatten_drop (fun b hb => h b (by simp [hb])) i]
    simp
theorem flatten_take {α : Type} {n : Nat} : ∀ {l : List (List α)}, (∀ a ∈ l, a.length = n) → ∀ i, l.flatten.take (i * n) = (l.take i).flatten
  | [], _, i => by simp
  | a :: l, h, 0 => by simp
  | a :: l, h, i + 1 => by
    have e := h a (by simp)
    rw [List.flatten_cons, Nat.succ_mul, Nat.add_comm, List.take_add]
    rw [show (a ++ l.flatten).take n = a by rw [← e]; simp, show (a ++ l.flatten).drop n = l.flatten by rw [← e]; simp]
    rw [flatten_take (fun b hb => h b (by simp [hb])) i]
    simp
/-- A part of a slice. -/
theorem Sl.slice {P : Program} {h : AHeap} {n : Nat} {x : AV} {l : List (List AV)} (hs : Sl h n x l) {t e : TypeId} (hu : P.underlying t = some (.slice e)) (hz : tsz P e = some n) {lo hi : Option AV} {i j : Nat} (hlo : bnd lo 0 = some i) (hhi : bnd hi l.length = some j) (hij : i ≤ j) (hj : j ≤ l.length) :
    ∃ x', pslice P t x lo hi none = some x' ∧ Sl h n x' ((l.drop i).take (j - i)) ∧ blk x' = blk x := by
  obtain ⟨h1, h2⟩ := hs
  have h1' : ∀ a ∈ (l.drop i).take (j - i), a.length = n := fun a ha => h1 a (List.mem_of_mem_drop (List.mem_of_mem_take ha))
  have hlen : ((l.drop i).take (j - i)).length = j - i := by rw [List.length_take, List.length_drop]; omega
  rcases h2 with ⟨rfl, rfl⟩ | ⟨b, o, z, c, ty, cs, wr, rfl, h3, h4, h5, h6, h7⟩ | ⟨rfl, b, o, z, c, h3, rfl, h7⟩
  · simp only [List.length_nil] at hj hhi
    obtain rfl : j = 0 := by omega
    obtain rfl : i = 0 := by omega
    exact ⟨.nilsl, by simp only [pslice, hu, hlo, hhi, hz], by simpa using Sl.nil h n, rfl⟩
  · have hm : i * n + (j - i) * n ≤ l.length * n := by rw [← Nat.add_mul]; exact Nat.mul_le_mul_right n (by omega)
    have hfl : (cs.drop (o + i * n)).take ((j - i) * n) = ((l.drop i).take (j - i)).flatten := by
      rw [take_drop_take cs o (i * n) _ _ hm, h6, flatten_drop h1, flatten_take fun a ha => h1 a (List.mem_of_mem_drop ha)]
    cases c with
    | at_ k =>
      have h7 : l.length ≤ k := h7
      refine ⟨.sl b (o + i * n) (if i = 0 then z else o) (j - i) (.at_ (k - i)), by simp only [pslice, hu, hlo, hhi, hz]; rw [if_pos ⟨hij, by omega⟩], ⟨h1', .inr (.inl ⟨b, o + i * n, _, .at_ (k - i), ty, cs, wr, by rw [hlen], h3, h4, by rw [hlen]; omega, by rw [hlen]; exact hfl, ?_⟩)⟩, rfl⟩
      show _ ≤ k - i
      rw [hlen]; omega
    | op s lb =>
      have h7 : s = n := h7
      subst h7
      exact ⟨.sl b (o + i * s) (if i = 0 then z else o) (j - i) (.op s (Nat.max l.length lb - i)), by simp only [pslice, hu, hlo, hhi, hz]; rw [if_pos ⟨hij, Nat.le_trans hj (Nat.le_max_left _ _), trivial⟩], ⟨h1', .inr (.inl ⟨b, o + i * s, _, .op s _, ty, cs, wr, by rw [hlen], h3, h4, by rw [hlen]; omega, by rw [hlen]; exact hfl, rfl⟩)⟩, rfl⟩
  · simp only [List.length_nil] at hj hhi
    obtain rfl : j = 0 := by omega
    obtain rfl : i = 0 := by omega
    cases c with
    | at_ k => exact ⟨.sl b (o + 0 * n) z 0 (.at_ (k - 0)), by simp only [pslice, hu, hlo, hhi, hz]; rw [if_pos ⟨Nat.le_refl _, Nat.zero_le _⟩]; rfl, ⟨by simp, .inr (.inr ⟨by simp, b, _, _, _, h3, rfl, Nat.zero_le _⟩)⟩, rfl⟩
    | op s lb =>
      have h7 : s = n := h7
      subst h7
      exact ⟨.sl b (o + 0 * s) z 0 (.op s (Nat.max 0 lb - 0)), by simp only [pslice, hu, hlo, hhi, hz]; rw [if_pos ⟨Nat.le_refl _, Nat.zero_le _, trivial⟩]; rfl, ⟨by simp, .inr (.inr ⟨by simp, b, _, _, .op s _, h3, rfl, rfl⟩)⟩, rfl⟩
/-- What an append or a copy takes from a slice. -/
theorem Sl.src {P : Program} {h : AHeap} {n : Nat} {x : AV} {l : List (List AV)} (hs : Sl h n x l) {t e : TypeId} (hu : P.underlying t = some (.slice e)) : srcCells P h t x n = some (l.length, l.flatten) := by
  obtain ⟨h1, h2⟩ := hs
  rcases h2 with ⟨rfl, rfl⟩ | ⟨b, o, z, c, ty, cs, wr, rfl, h3, h4, h5, h6, h7⟩ | ⟨rfl, b, o, z, c, h3, rfl, h7⟩
  · simp [srcCells, hu]
  · simp only [srcCells, hu, h4]
    by_cases h0 : l.length = 0
    · rw [if_pos h0, h0, List.length_eq_zero_iff.1 h0]; rfl
    · rw [if_neg h0, if_pos h5, h6]
  · simp [srcCells, hu]

/-- Blocks that are not among W stay. -/
def Upd (W : List Nat) (h h' : AHeap) : Prop := h.next ≤ h'.next ∧ ∀ b, b < h.next → b ∉ W → h'.get b = h.get b
theorem Pres.upd {h h' : AHeap} (hp : Pres h h') (W : List Nat) : Upd W h h' := ⟨hp.1, fun b hb _ => hp.2 b hb⟩
theorem Upd.refl (W : List Nat) (h : AHeap) : Upd W h h := ⟨Nat.le_refl _, fun _ _ _ => rfl⟩
/-- A slice that may be written, and grows by append. -/
def Gw (h : AHeap) (e : TypeId) (n : Nat) (x : AV) (l : List (List AV)) : Prop :=
  (∀ a ∈ l, a.length = n) ∧ ((x = .nilsl ∧ l = []) ∨ (l = [] ∧ ∃ b, b < h.next ∧ x = .sl b 0 0 0 (.at_ 0) ∧ h.get b = .cells e [] (some 0)) ∨
    ∃ b lb cs m, b < h.next ∧ x = .sl b 0 0 l.length (.op n lb) ∧ h.get b = .cells e cs (some 0) ∧ cs.length = m * n ∧ l.length ≤ m ∧ cs.take (l.length * n) = l.flatten)
theorem Gw.nil (h : AHeap) (e : TypeId) (n : Nat) : Gw h e n .nilsl [] := ⟨by simp, .inl ⟨rfl, rfl⟩⟩
theorem Gw.sl {h : AHeap} {e : TypeId} {n : Nat} {x : AV} {l : List (List AV)} (hg : Gw h e n x l) : Sl h n x l := by
  obtain ⟨h1, h2⟩ := hg
  refine ⟨h1, ?_⟩
  rcases h2 with h2 | ⟨h2, b, hb, rfl, hc⟩ | ⟨b, lb, cs, m, hb, rfl, hc, h3, h4, h5⟩
  · exact .inl h2
  · exact .inr (.inr ⟨h2, b, 0, 0, _, hb, rfl, Nat.zero_le _⟩)
  · exact .inr (.inl ⟨b, 0, 0, _, e, cs, _, rfl, hb, hc, by rw [h3, Nat.zero_add]; exact Nat.mul_le_mul_right n h4, by rw [List.drop_zero]; exact h5, rfl⟩)
theorem Gw.keep {h h' : AHeap} {e : TypeId} {n : Nat} {x : AV} {l : List (List AV)} (hg : Gw h e n x l) (hn : h.next ≤ h'.next) (hk : ∀ b, blk x = some b → b < h.next → h'.get b = h.get b) : Gw h' e n x l := by
  obtain ⟨h1, h2⟩ := hg
  refine ⟨h1, ?_⟩
  rcases h2 with h2 | ⟨h2, b, hb, rfl, hc⟩ | ⟨b, lb, cs, m, hb, rfl, hc, h3, h4, h5⟩
  · exact .inl h2
  · exact .inr (.inl ⟨h2, b, by omega, rfl, by rw [hk b rfl hb, hc]⟩)
  · exact .inr (.inr ⟨b, lb, cs, m, by omega, rfl, by rw [hk b rfl hb, hc], h3, h4, h5⟩)
theorem Gw.pres {h h' : AHeap} {e : TypeId} {n : Nat} {x : AV} {l : List (List AV)} (hg : Gw h e n x l) (hp : Pres h h') : Gw h' e n x l := hg.keep hp.1 fun b _ hb => hp.2 b hb
theorem Gw.blk_lt {h : AHeap} {e : TypeId} {n : Nat} {x : AV} {l : List (List AV)} (hg : Gw h e n x l) {b : Nat} (hb : blk x = some b) : b < h.next := hg.sl.blk_lt hb
/-- What an append onto a slice does to the heap. -/
structure Grown (h : AHeap) (x : AV) (h' : AHeap) (x' : AV) : Prop where
  next : h.next ≤ h'.next
  keep : ∀ c, c < h.next → blk x ≠ some c → h'.get c = h.get c
  new : ∀ c, blk x' = some c → blk x = some c ∨ h.next ≤ c
theorem Grown.refl (h : AHeap) (x : AV) : Grown h x h x := ⟨Nat.le_refl _, fun _ _ _ => rfl, fun _ h => .inl h⟩
/-- An append: one more element where there may be room, or any number onto a slice that fills its block. -/
theorem Gw.append {P : Program} {h : AHeap} {e : TypeId} {n : Nat} {x y : AV} {l k : List (List AV)} (hg : Gw h e n x l) {t tx : TypeId} {bytes : Nat} {z : AV} (hu : P.underlying t = some (.slice e)) (hz : tsz P e = some n) (hy : tbytes P e = some bytes)
    (h0 : tzero P e = some z) (hzl : z.cells.length = n) (hn : 0 < n) (hk : srcCells P h tx y n = some (k.length, k.flatten)) (hkl : ∀ a ∈ k, a.length = n) (h1k : k.length ≤ 1)
    (hs1 : (l.length + k.length) * bytes ≤ 140737488355328) (hs2 : l.length + k.length ≤ 9223372036854775807) :
    ∃ x' h', aappend P h [t, tx] [x, y] = some (x', h') ∧ Gw h' e n x' (l ++ k) ∧ Grown h x h' x' := by
  have hall : ∀ a' ∈ l ++ k, a'.length = n := by
    intro a' hm
    rcases List.mem_append.1 hm with hm | hm
    · exact hg.1 a' hm
    · exact hkl a' hm
  have hg0 := hg
  obtain ⟨h1, h2⟩ := hg
  have hkf := flatten_len hkl
  by_cases hk0 : k.length = 0
  · obtain rfl : k = [] := List.length_eq_zero_iff.1 hk0
    refine ⟨x, h, ?_, by simpa using hg0, Grown.refl h x⟩
    rcases h2 with ⟨rfl, rfl⟩ | ⟨rfl, b, hb, rfl, hc⟩ | ⟨b, lb, cs, m, hb, rfl, hc, h3, h4, h5⟩ <;> simp [aappend, hu, hz, hy, h0, hk]
  · rcases h2 with ⟨rfl, rfl⟩ | ⟨rfl, b, hb, rfl, hc⟩ | ⟨b, lb, cs, m, hb, rfl, hc, h3, h4, h5⟩
    · refine ⟨.sl h.next 0 0 k.length (.op n k.length), h.new (.cells e k.flatten (some 0)), ?_, ⟨hall, .inr (.inr ⟨h.next, k.length, k.flatten, k.length, by simp, by simp, by simp, hkf, by simp, by rw [List.nil_append, List.take_of_length_le (by rw [hkf]; exact Nat.le_refl _)]⟩)⟩, ⟨by simp, fun c hc _ => by rw [AHeap.get_new, if_neg (by omega)], fun c hc => by simp only [blk, Option.some.injEq] at hc; omega⟩⟩
      simp only [aappend, hu, hz, hy, h0, hk, agrow]
      rw [if_neg hk0, if_pos ⟨by simpa using hs1, by simpa using hs2, hzl, hn⟩]
    · refine ⟨.sl h.next 0 0 k.length (.op n k.length), h.new (.cells e k.flatten (some 0)), ?_, ⟨hall, .inr (.inr ⟨h.next, k.length, k.flatten, k.length, by simp, by simp, by simp, hkf, by simp, by rw [List.nil_append, List.take_of_length_le (by rw [hkf]; exact Nat.le_refl _)]⟩)⟩, ⟨by simp, fun c hc _ => by rw [AHeap.get_new, if_neg (by omega)], fun c hc => by simp only [blk, Option.some.injEq] at hc; omega⟩⟩
      simp only [aappend, hu, hz, hy, h0, hk, agrow, hc]
      rw [if_neg hk0, if_neg (by simp), if_neg (by omega), if_pos (by simp), if_pos ⟨by simpa using hs1, by simpa using hs2, hzl, hn⟩]
      simp
    · have hk1 : k.length = 1 := by omega
      obtain ⟨a, rfl⟩ : ∃ a, k = [a] := List.length_eq_one_iff.1 hk1
      have hal : a.length = n := hkl a (by simp)
      have hfl := flatten_len h1
      simp only [List.length_cons, List.length_nil, Nat.zero_add, List.flatten_cons, List.flatten_nil, List.append_nil] at hk hs1 hs2
      by_cases hm : l.length + 1 ≤ m
      · have hle : (l.length + 1) * n ≤ cs.length := by rw [h3]; exact Nat.mul_le_mul_right n hm
        have hsm : (l.length + 1) * n = l.length * n + n := Nat.succ_mul _ _
        refine ⟨.sl b 0 0 (l.length + 1) (.op n (Nat.max lb (l.length + 1))), h.set b (.cells e (splice cs (l.length * n) a) (some 0)), ?_, ⟨hall, .inr (.inr ⟨b, Nat.max lb (l.length + 1), splice cs (l.length * n) a, m, by simpa using hb, by simp, by simp, ?_, by simpa using hm, ?_⟩)⟩, ⟨by simp, fun c _ hne => by rw [AHeap.get_set, if_neg fun e => hne (by simp [blk, e])], fun c hc => .inl hc⟩⟩
        · simp only [aappend, hu, hz, hy, h0, hk, hc]
          rw [if_neg (by omega), if_neg (by simp), if_pos ⟨by omega, trivial, hn⟩, if_pos (by rw [Nat.zero_add]; exact hle), Nat.zero_add]
        · rw [← h3]; simp only [splice, List.length_append, List.length_take, List.length_drop]; omega
        · rw [List.length_append, List.length_singleton, hsm, List.flatten_append]
          simp only [splice, List.flatten_cons, List.flatten_nil, List.append_nil]
          rw [List.take_append_of_le_length (by simp only [List.length_append, List.length_take]; omega), List.take_of_length_le (by simp only [List.length_append, List.length_take]; omega), h5]
      · have hme : m = l.length := by omega
        subst hme
        have hcs : cs = l.flatten := by rw [← h5, List.take_of_length_le (by omega)]
        subst hcs
        refine ⟨.sl h.next 0 0 (l.length + 1) (.op n (l.length + 1)), (h.set b .dead).new (.cells e (l.flatten ++ a) (some 0)), ?_, ⟨hall, .inr (.inr ⟨h.next, l.length + 1, l.flatten ++ a, l.length + 1, by simp, by simp, ?_, ?_, by simp, ?_⟩)⟩, ⟨by simp, fun c hc hne => ?_, fun c hc => by simp only [blk, Option.some.injEq] at hc; omega⟩⟩
        · simp only [aappend, hu, hz, hy, h0, hk, hc]
          rw [if_neg (by omega), if_neg (by simp), if_pos ⟨by omega, trivial, hn⟩, if_neg (by rw [hfl, Nat.zero_add, Nat.succ_mul]; omega), if_pos ⟨by rw [hfl]; omega, hs1, hs2, hzl, .inl trivial⟩]
          simp
        · rw [AHeap.get_new, set_next, if_pos rfl]
        · simp [hfl, hal, Nat.succ_mul]
        · rw [List.length_append, List.length_singleton, List.take_of_length_le (by simp [hfl, hal, Nat.succ_mul])]; simp
        · have hcb : b ≠ c := fun e' => hne (by simp [blk, e'])
          rw [AHeap.get_new, if_neg (by simp; omega), AHeap.get_set, if_neg hcb]
/-- A slice that fills its block, and grows by append. -/
def Gf (h : AHeap) (e : TypeId) (n : Nat) (x : AV) (l : List (List AV)) : Prop :=
  (∀ a ∈ l, a.length = n) ∧ ((x = .nilsl ∧ l = []) ∨ (l = [] ∧ ∃ b, b < h.next ∧ x = .sl b 0 0 0 (.at_ 0) ∧ h.get b = .cells e [] (some 0)) ∨
    ∃ b lb, b < h.next ∧ x = .sl b 0 0 l.length (.op n lb) ∧ h.get b = .cells e l.flatten (some 0))
theorem Gf.nil (h : AHeap) (e : TypeId) (n : Nat) : Gf h e n .nilsl [] := ⟨by simp, .inl ⟨rfl, rfl⟩⟩
theorem Gf.gw {h : AHeap} {e : TypeId} {n : Nat} {x : AV} {l : List (List AV)} (hg : Gf h e n x l) : Gw h e n x l := by
  obtain ⟨h1, h2⟩ := hg
  refine ⟨h1, ?_⟩
  rcases h2 with h2 | h2 | ⟨b, lb, hb, rfl, hc⟩
  · exact .inl h2
  · exact .inr (.inl h2)
  · exact .inr (.inr ⟨b, lb, l.flatten, l.length, hb, rfl, hc, flatten_len h1, Nat.le_refl _, by rw [List.take_of_length_le (by rw [flatten_len h1]; exact Nat.le_refl _)]⟩)
theorem Gf.sl {h : AHeap} {e : TypeId} {n : Nat} {x : AV} {l : List (List AV)} (hg : Gf h e n x l) : Sl h n x l := hg.gw.sl
theorem Gf.blk_lt {h : AHeap} {e : TypeId} {n : Nat} {x : AV} {l : List (List AV)} (hg : Gf h e n x l) {b : Nat} (hb : blk x = some b) : b < h.next := hg.sl.blk_lt hb
theorem Gf.keep {h h' : AHeap} {e : TypeId} {n : Nat} {x : AV} {l : List (List AV)} (hg : Gf h e n x l) (hn : h.next ≤ h'.next) (hk : ∀ b, blk x = some b → b < h.next → h'.get b = h.get b) : Gf h' e n x l := by
  obtain ⟨h1, h2⟩ := hg
  refine ⟨h1, ?_⟩
  rcases h2 with h2 | ⟨h2, b, hb, rfl, hc⟩ | ⟨b, lb, hb, rfl, hc⟩
  · exact .inl h2
  · exact .inr (.inl ⟨h2, b, by omega, rfl, by rw [hk b rfl hb, hc]⟩)
  · exact .inr (.inr ⟨b, lb, by omega, rfl, by rw [hk b rfl hb, hc]⟩)
theorem Gf.pres {h h' : AHeap} {e : TypeId} {n : Nat} {x : AV} {l : List (List AV)} (hg : Gf h e n x l) (hp : Pres h h') : Gf h' e n x l := hg.keep hp.1 fun b _ hb => hp.2 b hb
/-- An append of any number. -/
theorem Gf.append {P : Program} {h : AHeap} {e : TypeId} {n : Nat} {x y : AV} {l k : List (List AV)} (hg : Gf h e n x l) {t tx : TypeId} {bytes : Nat} {z : AV} (hu : P.underlying t = some (.slice e)) (hz : tsz P e = some n) (hy : tbytes P e = some bytes)
    (h0 : tzero P e = some z) (hzl : z.cells.length = n) (hn : 0 < n) (hk : srcCells P h tx y n = some (k.length, k.flatten)) (hkl : ∀ a ∈ k, a.length = n)
    (hs1 : (l.length + k.length) * bytes ≤ 140737488355328) (hs2 : l.length + k.length ≤ 9223372036854775807) :
    ∃ x' h', aappend P h [t, tx] [x, y] = some (x', h') ∧ Gf h' e n x' (l ++ k) ∧ Grown h x h' x' := by
  have hall : ∀ a' ∈ l ++ k, a'.length = n := by
    intro a' hm
    rcases List.mem_append.1 hm with hm | hm
    · exact hg.1 a' hm
    · exact hkl a' hm
  have hg0 := hg
  obtain ⟨h1, h2⟩ := hg
  have hkf := flatten_len hkl
  by_cases hk0 : k.length = 0
  · obtain rfl : k = [] := List.length_eq_zero_iff.1 hk0
    refine ⟨x, h, ?_, by simpa using hg0, Grown.refl h x⟩
    rcases h2 with ⟨rfl, rfl⟩ | ⟨rfl, b, hb, rfl, hc⟩ | ⟨b, lb, hb, rfl, hc⟩ <;> simp [aappend, hu, hz, hy, h0, hk]
  · rcases h2 with ⟨rfl, rfl⟩ | ⟨rfl, b, hb, rfl, hc⟩ | ⟨b, lb, hb, rfl, hc⟩
    · refine ⟨.sl h.next 0 0 k.length (.op n k.length), h.new (.cells e k.flatten (some 0)), ?_, ⟨hall, .inr (.inr ⟨h.next, k.length, by simp, by simp, by simp⟩)⟩, ⟨by simp, fun c hc _ => by rw [AHeap.get_new, if_neg (by omega)], fun c hc => by simp only [blk, Option.some.injEq] at hc; omega⟩⟩
      simp only [aappend, hu, hz, hy, h0, hk, agrow]
      rw [if_neg hk0, if_pos ⟨by simpa using hs1, by simpa using hs2, hzl, hn⟩]
    · refine ⟨.sl h.next 0 0 k.length (.op n k.length), h.new (.cells e k.flatten (some 0)), ?_, ⟨hall, .inr (.inr ⟨h.next, k.length, by simp, by simp, by simp⟩)⟩, ⟨by simp, fun c hc _ => by rw [AHeap.get_new, if_neg (by omega)], fun c hc => by simp only [blk, Option.some.injEq] at hc; omega⟩⟩
      simp only [aappend, hu, hz, hy, h0, hk, agrow, hc]
      rw [if_neg hk0, if_neg (by simp), if_neg (by omega), if_pos (by simp), if_pos ⟨by simpa using hs1, by simpa using hs2, hzl, hn⟩]
      simp
    · have hfl := flatten_len h1
      have hpos : 0 < k.length * n := Nat.mul_pos (by omega) hn
      refine ⟨.sl h.next 0 0 (l.length + k.length) (.op n (l.length + k.length)), (h.set b .dead).new (.cells e (l.flatten ++ k.flatten) (some 0)), ?_, ⟨hall, .inr (.inr ⟨h.next, l.length + k.length, by simp, by simp, ?_⟩)⟩, ⟨by simp, fun c hc hne => ?_, fun c hc => by simp only [blk, Option.some.injEq] at hc; omega⟩⟩
      · simp only [aappend, hu, hz, hy, h0, hk, hc]
        rw [if_neg hk0, if_neg (by simp), if_pos ⟨by omega, trivial, hn⟩, if_neg (by rw [hfl, Nat.zero_add, Nat.add_mul]; omega), if_pos ⟨by rw [hfl]; omega, hs1, hs2, hzl, .inl trivial⟩]
        simp
      · rw [AHeap.get_new, set_next, if_pos rfl]; simp
      · have hcb : b ≠ c := fun e' => hne (by simp [blk, e'])
        rw [AHeap.get_new, if_neg (by simp; omega), AHeap.get_set, if_neg hcb]
end Go.Eng
/- The engine, part 22: more rules: builds, blocks, stores. -/
namespace Go.Eng
attribute [local semireducible] Wn Wh
@[simp] theorem next_ne2 (n : Nat) : (n + 1 + 1 = n) = False := eq_false (by omega)
@[simp] theorem next_ne2' (n : Nat) : (n = n + 1 + 1) = False := eq_false (by omega)
@[simp] theorem next_ne3 (n : Nat) : (n + 1 + 1 + 1 = n) = False := eq_false (by omega)
@[simp] theorem next_ne3' (n : Nat) : (n = n + 1 + 1 + 1) = False := eq_false (by omega)
@[simp] theorem next_ne4 (n : Nat) : (n + 1 + 1 + 1 + 1 = n) = False := eq_false (by omega)
@[simp] theorem next_ne4' (n : Nat) : (n = n + 1 + 1 + 1 + 1) = False := eq_false (by omega)
@[simp] theorem next_ne5 (n : Nat) : (n + 1 + 1 + 1 + 1 + 1 = n) = False := eq_false (by omega)
@[simp] theorem next_ne5' (n : Nat) : (n = n + 1 + 1 + 1 + 1 + 1) = False := eq_false (by omega)
@[simp] theorem next_ne6 (n : Nat) : (n + 1 + 1 + 1 + 1 + 1 + 1 = n) = False := eq_false (by omega)
@[simp] theorem next_ne6' (n : Nat) : (n = n + 1 + 1 + 1 + 1 + 1 + 1) = False := eq_false (by omega)
@[simp] theorem next_ne7 (n : Nat) : (n + 1 + 1 + 1 + 1 + 1 + 1 + 1 = n) = False := eq_false (by omega)
@[simp] theorem next_ne7' (n : Nat) : (n = n + 1 + 1 + 1 + 1 + 1 + 1 + 1) = False := eq_false (by omega)
@[simp] theorem next_ne8 (n : Nat) : (n + 1 + 1 + 1 + 1 + 1 + 1 + 1 + 1 = n) = False := eq_false (by omega)
@[simp] theorem next_ne8' (n : Nat) : (n = n + 1 + 1 + 1 + 1 + 1 + 1 + 1 + 1) = False := eq_false (by omega)
@[simp] theorem next_ne9 (n : Nat) : (n + 1 + 1 + 1 + 1 + 1 + 1 + 1 + 1 + 1 = n) = False := eq_false (by omega)
@[simp] theorem next_ne9' (n : Nat) : (n = n + 1 + 1 + 1 + 1 + 1 + 1 + 1 + 1 + 1) = False := eq_false (by omega)
section
variable {P : Program}
@[simp] theorem evps_nil (ev : Operand → Option AV) : evps ev [] = some [] := rfl
def oc3 (i : Nat) (a : Option AV) (l : Option (List (Nat × AV))) : Option (List (Nat × AV)) := match a, l with | some a, some b => some ((i, a) :: b) | _, _ => none
@[simp] theorem evps_cons (ev : Operand → Option AV) (i : Nat) (x : Operand) (r : List (Nat × Operand)) : evps ev ((i, x) :: r) = oc3 i (ev x) (evps ev r) := by
  simp only [evps, oc3]
  cases ev x with
  | none => rfl
  | some v => cases evps ev r <;> rfl
@[simp] theorem oc3_some (i : Nat) (a : AV) (l : List (Nat × AV)) : oc3 i (some a) (some l) = some ((i, a) :: l) := rfl
def bd2 (P : Program) (t : TypeId) (l : Option (List (Nat × AV))) : Option AV := match l with | some l => pbuild P t l | none => none
@[simp] theorem ppure_build (ev : Operand → Option AV) (t : TypeId) (ps : Array (Nat × Operand)) : ppure P ev (.build t ps) = bd2 P t (evps ev ps.toList) := rfl
@[simp] theorem bd2_some (t : TypeId) (l : List (Nat × AV)) : bd2 P t (some l) = pbuild P t l := rfl
/-- The cells of a slice that is built. -/
def pbs (P : Program) (t : TypeId) (len : Nat) (l : List (Nat × AV)) : Option (TypeId × List AV × Mk) :=
  match P.underlying t with
  | some (.slice e) =>
    match tsz P e, tzero P e with
    | some n, some z =>
      if len * n ≤ 16777216 ∧ z.cells.length = n then
        match afill (fun i => some (i * n, n)) (reps len z.cells) l with
        | some cs => if cs.all AV.one then some (e, cs, .sl len len) else none
        | none => none
      else none
    | _, _ => none
  | _ => none
def bs2 (P : Program) (t : TypeId) (len : Nat) (l : Option (List (Nat × AV))) : Option (TypeId × List AV × Mk) := match l with | some l => pbs P t len l | none => none
@[simp] theorem bs2_some (t : TypeId) (len : Nat) (l : List (Nat × AV)) : bs2 P t len (some l) = pbs P t len l := rfl
@[simp] theorem palloc_buildSlice (ev : Operand → Option AV) (t : TypeId) (len : Nat) (ps : Array (Nat × Operand)) : palloc P ev (.buildSlice t len ps) = bs2 P t len (evps ev ps.toList) := by
  simp only [palloc, bs2, pbs]
  cases evps ev ps.toList with
  | none => cases P.underlying t with
    | none => rfl
    | some d => cases d <;> rfl
  | some l => cases P.underlying t with
    | none => rfl
    | some d => cases d <;> rfl
def pal (P : Program) (e : TypeId) : Option (TypeId × List AV × Mk) := match tzero P e with
  | some z => if z.cells.all AV.one then some (e, z.cells, .ptr) else none
  | none => none
@[simp] theorem palloc_alloc (ev : Operand → Option AV) (e : TypeId) : palloc P ev (.alloc e) = pal P e := rfl
/-- A store into known cells. -/
def stc (P : Program) (t : TypeId) (x : AObj) (o : Nat) (v : AV) : Option AObj := match x with
  | .cells ty cs (some f) => match tsz P t with
    | some n => if v.cells.length = n ∧ f ≤ o ∧ o + v.cells.length ≤ cs.length ∧ v.cells.all AV.one = true then some (.cells ty (splice cs o v.cells) (some f)) else none
    | none => none
  | _ => none
def Ws (x : Option AObj) (h : AHeap) (b : Nat) (K : AV → AHeap → Prop) : Prop := match x with | some ob => K (.tuple []) (h.set b ob) | none => False
@[simp] theorem Ws_some (x : AObj) (h : AHeap) (b : Nat) (K : AV → AHeap → Prop) : Ws (some x) h b K = K (.tuple []) (h.set b x) := rfl
@[congr] theorem Ws_congr {x x' : Option AObj} {h : AHeap} {b : Nat} {K : AV → AHeap → Prop} (hx : x = x') : Ws x h b K = Ws x' h b K := by rw [hx]
@[simp] theorem Wh_store (h : AHeap) (t : TypeId) (b o : Nat) (v : AV) (K : AV → AHeap → Prop) : Wh (astore P h t (.ptr b o) v) K = Ws (stc P t (h.get b) o v) h b K := by
  simp only [Wh, Ws, astore, stc]
  cases h.get b with
  | dead => rfl
  | map a b c => rfl
  | siter a b => rfl
  | cells ty cs wr =>
    cases wr with
    | none => rfl
    | some f =>
      simp only []
      cases tsz P t with
      | none => rfl
      | some n =>
        simp only []
        by_cases hc : v.cells.length = n ∧ f ≤ o ∧ o + v.cells.length ≤ cs.length ∧ v.cells.all AV.one = true
        · rw [if_pos hc, if_pos hc]
        · rw [if_neg hc, if_neg hc]
theorem splice_all (cs l : List AV) (h : cs.length = l.length) : splice cs 0 l = l := by
  simp [splice, ← h]
theorem stc_all {t : TypeId} {n : Nat} (hs : tsz P t = some n) {ty : TypeId} {cs : List AV} {v : AV} (h1 : cs.length = n) (h2 : v.cells.length = n) (h3 : allOne v = true) : stc P t (.cells ty cs (some 0)) 0 v = some (.cells ty v.cells (some 0)) := by
  simp only [stc, hs]
  rw [if_pos ⟨h2, Nat.le_refl _, by omega, h3⟩, splice_all _ _ (by omega)]
theorem stc_one {t : TypeId} (hs : tsz P t = some 1) {ty : TypeId} {cs : List AV} {o : Nat} {v : AV} (h1 : o < cs.length) (h2 : v.cells = [v]) (h3 : allOne v = true) : stc P t (.cells ty cs (some 0)) o v = some (.cells ty (cs.set o v) (some 0)) := by
  have e : splice cs o [v] = cs.set o v := by
    rw [splice, List.set_eq_take_append_cons_drop, if_pos h1]
    simp
  have h3' : v.cells.all AV.one = true := h3
  simp only [stc, hs]
  rw [h2] at h3' ⊢
  rw [if_pos ⟨rfl, Nat.zero_le _, by simp; omega, h3'⟩, e]
def pms (P : Program) (t : TypeId) (vl vc : AV) : Option (TypeId × List AV × Mk) :=
  match P.underlying t with
  | some (.slice e) =>
      match nat? vl, nat? vc, tsz P e, tbytes P e, tzero P e with
      | some l, some c, some n, some by_, some z =>
        if l ≤ c ∧ by_ * c ≤ 281474976710656 ∧ c ≤ 9223372036854775807 ∧ z.cells.length = n ∧ z.cells.all AV.one = true then some (e, reps c z.cells, .sl l c) else none
      | _, _, _, _, _ => none
  | _ => none
def ms2 (P : Program) (t : TypeId) (l c : Option AV) : Option (TypeId × List AV × Mk) := match l, c with | some l, some c => pms P t l c | _, _ => none
@[simp] theorem ms2_some (t : TypeId) (l c : AV) : ms2 P t (some l) (some c) = pms P t l c := rfl
@[simp] theorem palloc_makeSlice (ev : Operand → Option AV) (t : TypeId) (l c : Operand) : palloc P ev (.makeSlice t l c) = ms2 P t (ev l) (ev c) := by
  simp only [palloc, ms2, pms]
  cases ev l with
  | none => cases P.underlying t with
    | none => rfl
    | some d => cases d <;> rfl
  | some x => cases ev c with
    | none => cases P.underlying t with
      | none => rfl
      | some d => cases d <;> rfl
    | some y => cases P.underlying t with
      | none => rfl
      | some d => cases d <;> rfl
theorem reps_single (n : Nat) (v : AV) : reps n [v] = List.replicate n v := by
  induction n with
  | zero => rfl
  | succ n ih => simp only [reps, List.replicate_succ, List.flatten_cons] at ih ⊢; rw [ih]; rfl
theorem pms_int {t e : TypeId} (hu : P.underlying t = some (.slice e)) (hs : tsz P e = some 1) {by_ : Nat} (hy : tbytes P e = some by_) {k : IntKind} (hz : tzero P e = some (.int k 0)) {n : Nat} (hn : by_ * n ≤ 281474976710656) (hn2 : n ≤ 9223372036854775807) :
    pms P t (.int .i64 n) (.int .i64 n) = some (e, List.replicate n (.int k 0), .sl n n) := by
  simp only [pms, hu, nat?, Int.toNat_natCast, hs, hy, hz]
  rw [if_pos (by omega)]
  simp only []
  rw [if_pos ⟨Nat.le_refl _, hn, hn2, rfl, rfl⟩, cells_int, reps_single]
end
attribute [irreducible] Ws
end Go.Eng
