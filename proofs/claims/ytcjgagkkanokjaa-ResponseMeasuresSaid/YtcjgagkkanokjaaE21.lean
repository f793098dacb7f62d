/- The engine, part 21: slices that are read; slices that grow by append. -/
import Derived.Test.YtcjgagkkanokjaaE20
namespace Go.Eng

/-- Cell number i of a list of equal chunks. -/
theorem flatten_len {α : Type} {n : Nat} : ∀ {l : List (List α)}, (∀ a ∈ l, a.length = n) → l.flatten.length = l.length * n
  | [], _ => by simp
  | a :: l, h => by
    rw [List.flatten_cons, List.length_append, h a (by simp), flatten_len fun b hb => h b (by simp [hb]), List.length_cons, Nat.succ_mul, Nat.add_comm]
theorem flatten_at {α : Type} {n : Nat} : ∀ {l : List (List α)}, (∀ a ∈ l, a.length = n) → ∀ (i : Nat) (hi : i < l.length), (l.flatten.drop (i * n)).take n = l[i]
  | [], _, i, hi => by simp at hi
  | a :: l, h, 0, _ => by
    have := h a (by simp)
    simp [← this]
  | a :: l, h, i + 1, hi => by
    have e := h a (by simp)
    rw [List.flatten_cons, Nat.succ_mul, Nat.add_comm, ← List.drop_drop]
    rw [show (a ++ l.flatten).drop n = l.flatten by rw [← e]; simp]
    rw [flatten_at (fun b hb => h b (by simp [hb])) i (by simpa using hi)]
    simp

/-- A value that reads as a slice of chunks of n cells. -/
def Sl (h : AHeap) (n : Nat) (x : AV) (l : List (List AV)) : Prop :=
  (∀ a ∈ l, a.length = n) ∧ ((x = .nilsl ∧ l = []) ∨ (∃ b o z c ty cs wr, x = .sl b o z l.length c ∧ b < h.next ∧ h.get b = .cells ty cs wr ∧ o + l.length * n ≤ cs.length ∧ (cs.drop o).take (l.length * n) = l.flatten) ∨ (l = [] ∧ ∃ b o z c, b < h.next ∧ x = .sl b o z 0 c))
theorem Sl.mono {h h' : AHeap} {n : Nat} {x : AV} {l : List (List AV)} (hs : Sl h n x l) (hn : h.next ≤ h'.next) (hg : ∀ b, b < h.next → h'.get b = h.get b) : Sl h' n x l := by
  obtain ⟨h1, h2⟩ := hs
  refine ⟨h1, ?_⟩
  rcases h2 with h2 | ⟨b, o, z, c, ty, cs, wr, h2, h3, h4, h5, h6⟩ | ⟨h2, b, o, z, c, h3, h4⟩
  · exact .inl h2
  · exact .inr (.inl ⟨b, o, z, c, ty, cs, wr, h2, by omega, by rw [hg b h3, h4], h5, h6⟩)
  · exact .inr (.inr ⟨h2, b, o, z, c, by omega, h4⟩)
theorem Sl.pres {h h' : AHeap} {n : Nat} {x : AV} {l : List (List AV)} (hs : Sl h n x l) (hp : Pres h h') : Sl h' n x l := hs.mono hp.1 hp.2
theorem Sl.len {P : Program} {h : AHeap} {n : Nat} {x : AV} {l : List (List AV)} (hs : Sl h n x l) {t e : TypeId} (hu : P.underlying t = some (.slice e)) : plen P t x = some (.int .i64 (l.length : Int)) := by
  rcases hs.2 with ⟨rfl, rfl⟩ | ⟨b, o, z, c, ty, cs, wr, rfl, _⟩ | ⟨rfl, b, o, z, c, _, rfl⟩
  · simp [plen, hu]
  · simp [plen, hu]
  · simp [plen, hu]
theorem take_drop_take {α : Type} (l : List α) (o i n m : Nat) (h : i + n ≤ m) : (l.drop (o + i)).take n = (((l.drop o).take m).drop i).take n := by
  rw [List.drop_take, List.take_take, List.drop_drop, Nat.min_eq_left (by omega)]
theorem chunk_le {i n k : Nat} (hi : i < k) : i * n + n ≤ k * n := by
  rw [← Nat.succ_mul]; exact Nat.mul_le_mul_right n hi
/-- An element: its address, and what its cells are. -/
theorem Sl.at {P : Program} {h : AHeap} {n : Nat} {x : AV} {l : List (List AV)} (hs : Sl h n x l) {t e : TypeId} (hu : P.underlying t = some (.slice e)) (hz : tsz P e = some n) (i : Nat) (hi : i < l.length) :
    ∃ b o, pindexAddr P t x (.int .i64 (i : Int)) = some (.ptr b o) ∧ b < h.next ∧
      (isAggT P e = some true → atCells P e (h.get b) o = some (.agg l[i])) ∧ ∀ f s, isAggT P s = some false → f < n → atCells P s (h.get b) (o + f) = l[i][f]? := by
  obtain ⟨h1, h2⟩ := hs
  rcases h2 with ⟨_, rfl⟩ | ⟨b, o, z, c, ty, cs, wr, rfl, h3, h4, h5, h6⟩ | ⟨rfl, _⟩
  · simp at hi
  case inr.inr => simp at hi
  have hc : (cs.drop (o + i * n)).take n = l[i] := by
    rw [take_drop_take cs o (i * n) n (l.length * n) (chunk_le hi), h6, flatten_at h1 i hi]
  have hle := chunk_le (n := n) hi
  refine ⟨b, o + i * n, ?_, h3, fun ha => ?_, fun f s ha hf => ?_⟩
  · simp [pindexAddr, nat?, hu, hz, hi]
  · rw [h4, atCells_agg ha hz, if_pos (by omega), hc]
  · rw [h4, atCells_one ha, ← hc, List.getElem?_take, if_pos hf, List.getElem?_drop]
/-- An element of a slice of values of one cell. -/
theorem Sl.at1 {P : Program} {h : AHeap} {x : AV} {l : List AV} (hs : Sl h 1 x (l.map fun v => [v])) {t e : TypeId} (hu : P.underlying t = some (.slice e)) (hz : tsz P e = some 1) (ha : isAggT P e = some false) (i : Nat) (hi : i < l.length) :
    ∃ b o, pindexAddr P t x (.int .i64 (i : Int)) = some (.ptr b o) ∧ b < h.next ∧ atCells P e (h.get b) o = some l[i] := by
  obtain ⟨b, o, h1, h2, _, h3⟩ := hs.at hu hz i (by simpa using hi)
  refine ⟨b, o, h1, h2, ?_⟩
  have := h3 0 e ha (by omega)
  simpa using this

def blk (x : AV) : Option Nat := match x with | .sl b _ _ _ _ => some b | _ => none
/-- A slice that has been grown by append from nil. -/
def Gr (h : AHeap) (e : TypeId) (n lo : Nat) (x : AV) (l : List (List AV)) : Prop :=
  (∀ a ∈ l, a.length = n) ∧ ((x = .nilsl ∧ l = []) ∨ ∃ b, lo ≤ b ∧ b < h.next ∧ x = .sl b 0 0 l.length (.op n) ∧ h.get b = .cells e l.flatten (some 0) ∧ l ≠ [])
theorem Gr.nil (h : AHeap) (e : TypeId) (n lo : Nat) : Gr h e n lo .nilsl [] := ⟨by simp, .inl ⟨rfl, rfl⟩⟩
theorem Gr.sl {h : AHeap} {e : TypeId} {n lo : Nat} {x : AV} {l : List (List AV)} (hg : Gr h e n lo x l) : Sl h n x l := by
  obtain ⟨h1, h2⟩ := hg
  refine ⟨h1, ?_⟩
  rcases h2 with h2 | ⟨b, _, hb, rfl, hc, _⟩
  · exact .inl h2
  · refine .inr (.inl ⟨b, 0, 0, _, e, _, _, rfl, hb, hc, by rw [flatten_len h1]; omega, ?_⟩)
    rw [List.drop_zero, List.take_of_length_le (by rw [flatten_len h1]; exact Nat.le_refl _)]
theorem Gr.blk {h : AHeap} {e : TypeId} {n lo : Nat} {x : AV} {l : List (List AV)} (hg : Gr h e n lo x l) {b : Nat} (hb : blk x = some b) : lo ≤ b ∧ b < h.next := by
  rcases hg.2 with ⟨rfl, _⟩ | ⟨c, h1, h2, rfl, _⟩
  · simp [Go.Eng.blk] at hb
  · simp only [Go.Eng.blk, Option.some.injEq] at hb; subst hb; exact ⟨h1, h2⟩
theorem Gr.mono {h h' : AHeap} {e : TypeId} {n lo : Nat} {x : AV} {l : List (List AV)} (hg : Gr h e n lo x l) (hn : h.next ≤ h'.next) (hk : ∀ b, Go.Eng.blk x = some b → h'.get b = h.get b) : Gr h' e n lo x l := by
  obtain ⟨h1, h2⟩ := hg
  refine ⟨h1, ?_⟩
  rcases h2 with h2 | ⟨b, h3, h4, rfl, h5, h6⟩
  · exact .inl h2
  · exact .inr ⟨b, h3, by omega, rfl, by rw [hk b rfl, h5], h6⟩
theorem Gr.pres {h h' : AHeap} {e : TypeId} {n lo : Nat} {x : AV} {l : List (List AV)} (hg : Gr h e n lo x l) (hp : Pres h h') : Gr h' e n lo x l := hg.mono hp.1 fun b hb => hp.2 b (hg.blk hb).2
/-- One more element. -/
theorem Gr.append {P : Program} {h : AHeap} {e : TypeId} {n lo : Nat} {x : AV} {l : List (List AV)} (hg : Gr h e n lo x l) {t : TypeId} {bytes : Nat} {z : AV} (hu : P.underlying t = some (.slice e)) (hz : tsz P e = some n) (hy : tbytes P e = some bytes)
    (h0 : tzero P e = some z) (hzl : z.cells.length = n) (hn : 0 < n) {b2 : Nat} {ty2 : TypeId} {a : List AV} {wr2 : Option Nat} (hb2 : h.get b2 = .cells ty2 a wr2) (ha : a.length = n) (hlo : lo ≤ h.next)
    (hs1 : (l.length + 1) * bytes ≤ 140737488355328) (hs2 : l.length + 1 ≤ 9223372036854775807) :
    ∃ x' h', aappend P h [t, t] [x, .sl b2 0 0 1 (.at_ 1)] = some (x', h') ∧ Gr h' e n lo x' (l ++ [a]) ∧ h.next ≤ h'.next ∧ (∀ c, c < h.next → Go.Eng.blk x ≠ some c → h'.get c = h.get c) ∧ ∀ c, Go.Eng.blk x' = some c → h.next ≤ c := by
  have src : srcCells P h t (.sl b2 0 0 1 (.at_ 1)) n = some (1, a) := by
    simp only [srcCells, hu, hb2]
    rw [if_neg (by omega), if_pos (by omega), List.drop_zero, Nat.one_mul, ← ha, List.take_length]
  obtain ⟨h1, h2⟩ := hg
  have hall : ∀ a' ∈ l ++ [a], a'.length = n := by
    intro a' hm
    rcases List.mem_append.1 hm with hm | hm
    · exact h1 a' hm
    · simp at hm; subst hm; exact ha
  rcases h2 with ⟨rfl, rfl⟩ | ⟨b, h3, h4, rfl, h5, h6⟩
  · refine ⟨.sl h.next 0 0 1 (.op n), h.new (.cells e a (some 0)), ?_, ⟨hall, .inr ⟨h.next, hlo, by simp, rfl, by simp, by simp⟩⟩, by simp, fun c hc _ => by rw [AHeap.get_new, if_neg (by omega)], fun c hc => by simp only [Go.Eng.blk, Option.some.injEq] at hc; omega⟩
    simp only [aappend, hu, hz, hy, h0, src, agrow]
    rw [if_neg (by omega), if_pos ⟨by simpa using hs1, by omega, hzl, hn⟩]
  · have hfl := flatten_len h1
    refine ⟨.sl h.next 0 0 (l.length + 1) (.op n), (h.set b .dead).new (.cells e (l.flatten ++ a) (some 0)), ?_, ⟨hall, .inr ⟨h.next, hlo, by simp, by simp, ?_, by simp⟩⟩, by simp, fun c hc hne => ?_, fun c hc => by simp only [Go.Eng.blk, Option.some.injEq] at hc; omega⟩
    · simp only [aappend, hu, hz, hy, h0, src, h5]
      rw [if_neg (by omega), if_neg (by simp), if_pos ⟨by omega, trivial, hn⟩, if_neg (by rw [hfl, Nat.zero_add, Nat.succ_mul]; omega), if_pos ⟨by rw [hfl]; omega, hs1, hs2, hzl⟩]
      simp
    · rw [AHeap.get_new, set_next, if_pos rfl]; simp
    · have hcb : b ≠ c := fun e' => hne (by simp [Go.Eng.blk, e'])
      rw [AHeap.get_new, if_neg (by simp; omega), AHeap.get_set, if_neg hcb]
end Go.Eng
