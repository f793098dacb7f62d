/- The engine, part 25: arguments, opened: slices of flat structs, arrays of integers. -/
import Derived.Test.YtcjgagkkanokjacGreatDoorE23
import Derived.ProofKit
import Derived.Deep.Slices
import Derived.SizedLaws
namespace Go.Eng
open Go.ChangeShapes Go.WideShapes Go.ChangeAt Go.RowKit Go.Deep

/-- A struct whose fields are integers of 64 bits, one cell each, in order. -/
def flatFs (P : Program) : List Field → Nat → Bool
  | [], _ => true
  | f :: r, i => (match P.underlying f.type with | some (.int .i64) => true | _ => false) && Nat.beq f.offset i && Nat.beq (P.cellsOf f.type) 1 && flatFs P r (i + 1)
def flatB (P : Program) (t : TypeId) (m : Nat) : Bool := match P.underlying t with
  | some (.struct fs) => Nat.beq fs.size m && Nat.beq (P.cellsOf t) m && flatFs P fs.toList 0
  | _ => false
theorem flatFs_at {P : Program} : ∀ (l : List Field) (k : Nat), flatFs P l k = true → ∀ i f, l[i]? = some f → P.underlying f.type = some (.int .i64) ∧ f.offset = k + i ∧ P.cellsOf f.type = 1
  | [], _, _, i, f, hi => by simp at hi
  | x :: r, k, h, 0, f, hi => by
    simp only [List.getElem?_cons_zero, Option.some.injEq] at hi
    subst hi
    simp only [flatFs, Bool.and_eq_true, Nat.beq_eq] at h
    obtain ⟨⟨⟨h1, h2⟩, h3⟩, _⟩ := h
    refine ⟨?_, by omega, h3⟩
    split at h1
    · assumption
    · cases h1
  | x :: r, k, h, i + 1, f, hi => by
    simp only [flatFs, Bool.and_eq_true] at h
    have := flatFs_at r (k + 1) h.2 i f (by simpa using hi)
    exact ⟨this.1, by omega, this.2.2⟩
def intV : Value → Int | .int _ n => n | _ => 0
section
variable {H : Type} {enc : TypeId × Value → H} {P : Program} {w : World} {base : Nat} {spare : Nat → Bool} {held : Bool}
theorem trod_flat {t m : Nat} {fuel : Nat} {cs : List Value} {x : DataW H × List MemPlace} (hf : flatB P t m = true) (h : DataW.trod enc P w base spare held fuel t cs = some x) :
    ∃ l : List Int, l.length = m ∧ cs = l.map (.int .i64) := by
  unfold flatB at hf
  split at hf
  · rename_i fs ht
    simp only [Bool.and_eq_true, Nat.beq_eq] at hf
    obtain ⟨⟨h1, h2⟩, h3⟩ := hf
    obtain ⟨xs, n, _, _, hlen, hxl, hx⟩ := DataW.trod_struct ht h
    have hat : ∀ i, i < m → ∃ q, cs[i]? = some (.int .i64 q) := fun i hi => by
      have hfi : fs[i]? = some (fs[i]'(by omega)) := Array.getElem?_eq_getElem (by omega)
      obtain ⟨g1, g2, g3⟩ := flatFs_at fs.toList 0 h3 i _ (by rw [Array.getElem?_toList]; exact hfi)
      have := hx i _ hfi
      rw [List.getElem?_eq_getElem (show i < xs.length by omega)] at this
      obtain ⟨q, hq, _⟩ := DataW.trod_int g1 this
      refine ⟨q, ?_⟩
      rw [g2, g3, Nat.zero_add] at hq
      have := congrArg (fun l : List Value => l[0]?) hq
      simpa [List.getElem?_take, List.getElem?_drop] using this
    refine ⟨cs.map intV, by rw [List.length_map]; omega, ?_⟩
    rw [List.map_map]
    apply List.ext_getElem?
    intro i
    rw [List.getElem?_map]
    by_cases hi : i < m
    · obtain ⟨q, hq⟩ := hat i hi
      rw [hq]; rfl
    · rw [List.getElem?_eq_none (by omega)]; rfl
  · cases hf
end
theorem conc_ints (ρ : Rho) : ∀ l : List Int, concs ρ (l.map (AV.int .i64)) = some (l.map (.int .i64))
  | [] => rfl
  | a :: r => by simp only [List.map_cons, concs, conc, conc_ints ρ r]
theorem flatten_map_ints : ∀ ls : List (List Int), (ls.map fun l => l.map (AV.int .i64)).flatten = ls.flatten.map (AV.int .i64)
  | [] => rfl
  | l :: r => by rw [List.map_cons, List.flatten_cons, flatten_map_ints r, List.flatten_cons, List.map_append]
/-- An argument that is a slice of flat structs. -/
theorem open_arg {H : Type} {enc : TypeId × Value → H} {P : Program} {W : World} {base t e m : Nat} {v : Value} {d : DataW H} {ps : List MemPlace} (ht : P.underlying t = some (.slice e)) (hf : flatB P e m = true) (hm : P.cellsOf e = m) (hm0 : 0 < m)
    (hval : Value.okWide P W .any base t v) (h : DataW.Trod enc P W 0 (fun _ => true) true t v d ps) :
    ∃ (a : Nat → AV) (o : AObj) (pl : Option Place) (ls : List (List Int)), (∀ l ∈ ls, l.length = m) ∧ (∀ (ρ : Rho) b, ρ b = pl → conc ρ (a b) = some v) ∧ o.writes = false ∧ (o.live = true → ∃ p, pl = some p ∧ ∀ ρ, ObjRel ρ o p W) ∧
      ∀ (h : AHeap) b, b < h.next → h.get b = o → Sl h m (a b) (ls.map fun l => l.map (AV.int .i64)) := by
  have hv : v = .slice none 0 0 ∨ ∃ a len cap, v = .slice (some a) len cap ∧ a.spot = none := by
    unfold Value.okWide Cell.okWide Cell.ok at hval
    simp only [ht] at hval
    cases v <;> simp at hval
    rename_i a len cap
    cases a with
    | none =>
      left
      cases len <;> cases cap <;> simp_all
    | some a =>
      simp at hval
      exact .inr ⟨a, len, cap, rfl, hval.2.2.2.1⟩
  rcases hv with rfl | ⟨a, len, cap, rfl, hsp⟩
  · exact ⟨fun _ => .nilsl, .dead, none, [], by simp, fun ρ b _ => rfl, rfl, fun hl => (by cases hl), fun h b _ _ => ⟨by simp, .inl ⟨rfl, rfl⟩⟩⟩
  obtain ⟨fuel, hd⟩ := h
  rcases open_slice ht (by simpa [Value.cells] using hd) with ⟨h0, _⟩ | ⟨a', len', cap', k, n, D, Pl, h0, _, hl, _, hk, _, hx⟩
  · simp at h0
  simp only [List.cons.injEq, Value.slice.injEq, Option.some.injEq, and_true] at h0
  obtain ⟨rfl, rfl, rfl⟩ := h0
  simp only [if_true] at hk
  rw [hk] at hx
  obtain ⟨blk, off, spot⟩ := a
  simp only at hsp
  subst hsp
  by_cases hz : len = 0
  · subst hz
    refine ⟨fun b => .sl b off off 0 (.at_ cap), .dead, some ⟨blk, 0, 0, none⟩, [], by simp, fun ρ b hb => ?_, rfl, fun hl => (by cases hl), fun h b hb _ => ⟨by simp, .inr (.inr ⟨rfl, b, off, off, .at_ cap, hb, rfl, Nat.zero_le _⟩)⟩⟩
    simp only [conc, hb, slVal]
    rw [if_pos ⟨Nat.zero_le _, Nat.zero_le _, fun _ => by simp⟩]
    simp only [slAt, slCap]
    cases Nat.beq cap 0 <;> simp
  · have hel : ∀ i, i < len → ∃ l : List Int, l.length = m ∧ ∀ j, j < m → W.cell? ⟨blk, off + i * m + j, none⟩ = (l.map (Value.int .i64))[j]? := fun i hi => by
      obtain ⟨cs', h1, h2⟩ := hx i (by omega)
      obtain ⟨l, h3, rfl⟩ := trod_flat hf h2
      obtain ⟨_, _, h4⟩ := World.cells?_some h1
      rw [hm] at h4
      refine ⟨l, h3, fun j hj => ?_⟩
      have := h4 j hj
      rw [addr_add, addr_add] at this
      exact this
    obtain ⟨L, hL⟩ := choose_lt (p := fun i (l : List Int) => l.length = m ∧ ∀ j, j < m → W.cell? ⟨blk, off + i * m + j, none⟩ = (l.map (Value.int .i64))[j]?) hel
    have h00 := (hL 0 (by omega)).2 0 hm0
    obtain ⟨c, ty, fz, hblk⟩ : ∃ c ty fz, W.heap[blk]? = some (.cells c ty fz) := by
      rw [List.getElem?_eq_getElem (by rw [List.length_map, (hL 0 (by omega)).1]; exact hm0)] at h00
      unfold World.cell? at h00
      simp only at h00
      split at h00
      · rename_i c ty fz hb; exact ⟨c, ty, fz, hb⟩
      · cases h00
    have hcell : ∀ i, i < len → ∀ j, j < m → c[off + i * m + j]? = ((L i).map (Value.int .i64))[j]? := fun i hi j hj => by
      have := (hL i hi).2 j hj
      unfold World.cell? at this
      simpa [hblk] using this
    have hls : ∀ l ∈ (List.range len).map L, l.length = m := fun l hl => by
      obtain ⟨i, hi, rfl⟩ := List.mem_map.1 hl
      exact (hL i (by simpa using hi)).1
    have hfl := flatten_len hls
    rw [List.length_map, List.length_range] at hfl
    have hq : ∀ q, q < len * m → c[off + q]? = (((List.range len).map L).flatten.map (Value.int .i64))[q]? := fun q hq => by
      have hi : q / m < len := Nat.div_lt_of_lt_mul (by rw [Nat.mul_comm]; exact hq)
      have hj : q % m < m := Nat.mod_lt _ hm0
      have e : q = q / m * m + q % m := (Nat.div_add_mod' q m).symm
      have h1 := hcell (q / m) hi (q % m) hj
      rw [Nat.add_assoc, ← e] at h1
      rw [h1, List.getElem?_map, List.getElem?_map]
      congr 1
      have h2 := flatten_at hls (q / m) (by simpa using hi)
      have h3 := congrArg (fun l : List Int => l[q % m]?) h2
      simp only [List.getElem?_take, if_pos hj, List.getElem?_drop, ← e, List.getElem_map, List.getElem_range] at h3
      exact h3.symm
    have hend : off + len * m ≤ c.size := by
      have hpos : 0 < len * m := Nat.mul_pos (by omega) hm0
      have h1 := hq (len * m - 1) (by omega)
      rw [List.getElem?_eq_getElem (by rw [List.length_map, hfl]; omega)] at h1
      obtain ⟨h2, _⟩ := Array.getElem?_eq_some_iff.1 h1
      omega
    refine ⟨fun b => .sl b 0 0 len (.at_ cap), .cells ty (((List.range len).map L).flatten.map (AV.int .i64)) none, some ⟨blk, off, c.size, none⟩, (List.range len).map L, hls, fun ρ b hb => ?_, rfl, fun _ => ⟨_, rfl, fun ρ => ?_⟩, fun h b hb hg => ?_⟩
    · simp only [conc, hb, slVal]
      rw [if_pos ⟨show len ≤ slCap ⟨blk, off, c.size, none⟩ 0 (.at_ cap) from hl, Nat.zero_le _, fun _ => by simp⟩]
      simp only [slAt, slCap]
      cases Nat.beq cap 0 <;> simp
    · refine ⟨c, fz, _, hblk, rfl, by rw [List.length_map, hfl]; exact hend, all_one_ints _ _, conc_ints ρ _, fun i x hx => ?_, fun f hf => by cases hf⟩
      obtain ⟨hi, _⟩ := List.getElem?_eq_some_iff.1 hx
      rw [List.length_map, hfl] at hi
      rw [hq i hi]
      exact hx
    · refine ⟨fun l hl => ?_, .inr (.inl ⟨b, 0, 0, .at_ cap, ty, _, none, by simp, hb, hg, by rw [List.length_map, List.length_map, List.length_map, List.length_range, hfl]; omega, ?_, by rw [List.length_map, List.length_map, List.length_range]; exact hl⟩)⟩
      · obtain ⟨l', hl', rfl⟩ := List.mem_map.1 hl
        rw [List.length_map]; exact hls l' hl'
      · rw [flatten_map_ints, List.drop_zero, List.take_of_length_le (by rw [List.length_map, List.length_map, List.length_map, List.length_range, hfl]; exact Nat.le_refl _)]
/-- An argument of n cells, all integers of 64 bits. -/
def intsB (P : Program) (t n : Nat) : Bool :=
  (match P.underlying t with | some (.struct _) => true | some (.array _ _) => true | _ => false) && Nat.beq (P.cellsOf t) n &&
  match P.cellTypes P.depth t with
  | some ts => ts.all fun u => match P.underlying u with | some (.int .i64) => true | _ => false
  | none => false
theorem open_ints {P : Program} {W : World} {r : Reach} {base t n : Nat} {v : Value} (hb : intsB P t n = true) (hval : Value.okWide P W r base t v) : ∃ l : List Int, l.length = n ∧ v = .agg (l.map (Value.int .i64)).toArray := by
  unfold intsB at hb
  simp only [Bool.and_eq_true, Nat.beq_eq] at hb
  obtain ⟨⟨h1, h2⟩, h3⟩ := hb
  have hv : ∃ cs, v = .agg cs ∧ cs.size = P.cellsOf t ∧ Row.okWide P W r base t cs := by
    unfold Value.okWide at hval
    split at hval
    · exact hval
    · exact hval
    · rename_i g1 g2
      split at h1
      · rename_i fs hu; exact absurd hu (g1 fs)
      · rename_i k e hu; exact absurd hu (g2 k e)
      · cases h1
  obtain ⟨cs, rfl, hsz, ts, hts, _, hcs⟩ := hv
  rw [hts] at h3
  simp only [List.all_eq_true] at h3
  have hat : ∀ i, i < cs.size → ∃ q, cs[i]? = some (.int .i64 q) := fun i hi => by
    have hci : cs[i]? = some cs[i] := Array.getElem?_eq_getElem hi
    obtain ⟨u, hu, hok⟩ := hcs i _ hci
    have h4 := h3 u (List.mem_of_getElem? hu)
    split at h4
    · rename_i hun
      unfold Cell.okWide at hok
      rw [hun] at hok
      simp only at hok
      unfold Cell.ok at hok
      rw [hun] at hok
      generalize cs[i] = c at *
      cases c <;> simp at hok
      obtain ⟨rfl, _⟩ := hok
      exact ⟨_, hci⟩
    · cases h4
  refine ⟨cs.toList.map intV, by rw [List.length_map, Array.length_toList]; omega, ?_⟩
  congr 1
  apply Array.ext'
  rw [List.map_map]
  apply List.ext_getElem?
  intro i
  rw [List.getElem?_map, Array.getElem?_toList]
  by_cases hi : i < cs.size
  · obtain ⟨q, hq⟩ := hat i hi
    rw [hq]; rfl
  · rw [Array.getElem?_eq_none (by omega)]; rfl
attribute [local semireducible] Ca
theorem Ca_out {P : Program} [Orc] {f : FuncId} {args : List AV} {h : AHeap} {K : AV → AHeap → Prop} (hc : Ca P f args h K) : ∃ n r h', acall P n f args h = some (r, h') ∧ K r h' := hc
end Go.Eng
/- The engine, part 38: arguments, opened: slices of bytes inside; many blocks that are read. -/
namespace Go.Eng
open Go.ChangeShapes Go.WideShapes Go.ChangeAt Go.RowKit Go.Deep
/-- Blocks that are read. -/
theorem list_heap : ∀ L : List (AObj × Option Place), ∃ h : AHeap, h.next = L.length ∧ h.glob = 0 ∧ ∀ b, h.get b = match L[b]? with | some p => p.1 | none => .dead := by
  have key : ∀ L : List (AObj × Option Place), ∃ h : AHeap, h.next = L.reverse.length ∧ h.glob = 0 ∧ ∀ b, h.get b = match L.reverse[b]? with | some p => p.1 | none => .dead := by
    intro L
    induction L with
    | nil => exact ⟨hp0, rfl, rfl, fun b => by simp [hp0_get]⟩
    | cons p L ih =>
      obtain ⟨h, h1, h2, h3⟩ := ih
      rw [List.reverse_cons]
      generalize L.reverse = L at *
      refine ⟨h.new p.1, by simp [h1], by simp [h2], fun b => ?_⟩
      rw [AHeap.get_new, h1, h3]
      by_cases e : L.length = b
      · subst e; simp
      · rw [if_neg e]
        by_cases hb : b < L.length
        · rw [List.getElem?_append_left hb]
        · rw [List.getElem?_append_right (by omega), List.getElem?_eq_none (by omega), List.getElem?_eq_none (by simp; omega)]
  intro L
  have := key L.reverse
  rwa [List.reverse_reverse] at this
def listRho (L : List (AObj × Option Place)) : Rho := fun b => match L[b]? with | some p => p.2 | none => none
theorem list_sim {L : List (AObj × Option Place)} {W : World} (hw : ∀ p ∈ L, p.1.writes = false) (ho : ∀ p ∈ L, p.1.live = true → ∃ pl, p.2 = some pl ∧ ObjRel (listRho L) p.1 pl W) :
    ∃ h : AHeap, h.next = L.length ∧ (∀ b, h.get b = match L[b]? with | some p => p.1 | none => .dead) ∧ Sim (listRho L) h W ∧ ∀ b, (h.get b).writes = false := by
  obtain ⟨h, h1, h2, h3⟩ := list_heap L
  have gw : ∀ b, (h.get b).writes = false := fun b => by
    rw [h3]
    cases hb : L[b]? with
    | none => rfl
    | some p => exact hw p (List.mem_of_getElem? hb)
  refine ⟨h, h1, h3, ⟨fun b pl hb => ?_, fun b hl => ?_, fun b b' pl pl' hwr => ?_, fun g hg => ?_, by rw [h2]; exact Nat.zero_le _⟩, gw⟩
  · unfold listRho at hb
    split at hb
    · rename_i p hp; rw [h1]; exact (List.getElem?_eq_some_iff.1 hp).1
    · cases hb
  · rw [h3] at hl ⊢
    cases hb : L[b]? with
    | none => rw [hb] at hl; cases hl
    | some p =>
      rw [hb] at hl
      obtain ⟨pl, k1, k2⟩ := ho p (List.mem_of_getElem? hb) hl
      exact ⟨pl, by simp only [listRho, hb]; exact k1, k2⟩
  · rw [gw b] at hwr; cases hwr
  · rw [h2] at hg; exact absurd hg (Nat.not_lt_zero _)

/-! ### bytes -/
def u8V (n : Int) : UInt8 := UInt8.ofNat n.toNat
theorem u8V_nat {n : Int} (h : (Lit.int .u8 n).wf = true) : ((u8V n).toNat : Int) = n := by
  have : 0 ≤ n ∧ n ≤ 255 := by
    simp [Lit.wf, IntKind.min, IntKind.max, IntKind.signed, IntKind.bits] at h
    omega
  unfold u8V
  simp
  omega
/-- What is known of a slice of bytes that is read somewhere. -/
structure BArg (W : World) where
  v : Value
  a : Nat → AV
  o : AObj
  pl : Option Place
  bs : List UInt8
structure BArg.Ok {W : World} (x : BArg W) : Prop where
  conc : ∀ (ρ : Rho) b, ρ b = x.pl → conc ρ (x.a b) = some x.v
  wr : x.o.writes = false
  live : x.o.live = true → ∃ p, x.pl = some p ∧ ∀ ρ, ObjRel ρ x.o p W
  sl : ∀ (h : AHeap) b, b < h.next → h.get b = x.o → Sl h 1 (x.a b) (x.bs.map fun b => [.int .u8 b.toNat])
  one : ∀ b, (x.a b).one = true
instance {W : World} : Inhabited (BArg W) := ⟨⟨.slice none 0 0, fun _ => .nilsl, .dead, none, []⟩⟩
theorem open_bytes {H : Type} {enc : TypeId × Value → H} {P : Program} {W : World} {t e fuel : Nat} {cs : List Value} {d : DataW H × List MemPlace} (ht : P.underlying t = some (.slice e)) (he : P.underlying e = some (.int .u8)) (hm : P.cellsOf e = 1)
    (h : DataW.trod enc P W 0 (fun _ => true) true fuel t cs = some d) :
    ∃ x : BArg W, x.Ok ∧ cs = [x.v] ∧ ((x.bs = [] ∧ d.1 = .nil) ∨ ∃ elems spare, d.1 = .slice elems spare ∧ elems.length = x.bs.length) := by
  rcases open_slice1 ht hm h with ⟨rfl, rfl⟩ | ⟨a, len, cap, m, n, V, D, Pl, rfl, _, hl, _, hmm, rfl, hx⟩
  · exact ⟨⟨.slice none 0 0, fun _ => .nilsl, .dead, none, []⟩, ⟨fun _ _ _ => rfl, rfl, fun h => (by cases h), fun h b _ _ => ⟨by simp, .inl ⟨rfl, rfl⟩⟩, fun _ => rfl⟩, rfl, .inl ⟨rfl, rfl⟩⟩
  simp only [if_true] at hmm
  subst hmm
  obtain ⟨blk, off, spot⟩ := a
  by_cases hz : m = 0
  · subst hz
    obtain rfl : len = 0 := by omega
    refine ⟨⟨.slice (some ⟨blk, off, spot⟩) 0 0, fun b => .sl b off off 0 (.at_ 0), .dead, some ⟨blk, 0, 0, spot⟩, []⟩, ⟨fun ρ b hb => ?_, rfl, fun h => (by cases h), fun h b hb _ => ⟨by simp, .inr (.inr ⟨rfl, b, off, off, .at_ 0, hb, rfl, Nat.zero_le _⟩)⟩, fun _ => rfl⟩, rfl, .inr ⟨_, _, rfl, by simp⟩⟩
    simp only [Eng.conc, hb, slVal]
    rw [if_pos ⟨Nat.zero_le _, Nat.zero_le _, fun h => absurd rfl h⟩]
    simp [slAt, slCap]
  have hi : ∀ i, i < m → ∃ q : Int, W.cell? ((⟨blk, off, spot⟩ : Addr).add i) = some (.int .u8 q) ∧ (Lit.int .u8 q).wf = true := fun i hi => by
    obtain ⟨h1, h2⟩ := hx i hi
    obtain ⟨q, h3, _, h4⟩ := DataW.trod_int he h2
    simp at h3
    exact ⟨q, by rw [h1, h3], h4⟩
  obtain ⟨c, ty, fz, hblk, hsp⟩ : ∃ c ty fz, W.heap[blk]? = some (.cells c ty fz) ∧ spot = none := by
    obtain ⟨q, h1, _⟩ := hi 0 (by omega)
    unfold World.cell? at h1
    simp [Addr.add] at h1
    split at h1
    · rename_i c ty fz hb
      refine ⟨c, ty, fz, hb, ?_⟩
      cases spot with
      | none => rfl
      | some s => simp at h1
    · cases h1
  subst hsp
  obtain ⟨Q, hQ⟩ := choose_lt (p := fun i (q : Int) => W.cell? ((⟨blk, off, none⟩ : Addr).add i) = some (.int .u8 q) ∧ (Lit.int .u8 q).wf = true) hi
  have hcell : ∀ i, i < m → c[off + i]? = some (.int .u8 ((u8V (Q i)).toNat : Nat)) := fun i hi => by
    obtain ⟨h1, h2⟩ := hQ i hi
    rw [addr_add, cell_of hblk] at h1
    rw [h1, u8V_nat h2]
  have hend : off + m ≤ c.size := by
    have := (Array.getElem?_eq_some_iff.1 (hcell (m - 1) (by omega))).1
    omega
  refine ⟨⟨.slice (some ⟨blk, off, none⟩) len m, fun b => .sl b 0 0 len (.at_ m), .cells ty ((List.range len).map fun i => .int .u8 ((u8V (Q i)).toNat : Nat)) none, some ⟨blk, off, c.size, none⟩, (List.range len).map fun i => u8V (Q i)⟩, ⟨fun ρ b hb => ?_, rfl, fun _ => ⟨_, rfl, fun ρ => ?_⟩, fun h b hb hg => ?_, fun _ => rfl⟩, rfl, .inr ⟨_, _, rfl, by simp⟩⟩
  · simp only [Eng.conc, hb, slVal]
    rw [if_pos ⟨show len ≤ slCap ⟨blk, off, c.size, none⟩ 0 (.at_ m) from hl, Nat.zero_le _, fun _ => trivial⟩]
    simp only [slAt, slCap]
    cases Nat.beq m 0 <;> simp
  · refine ⟨c, fz, (List.range len).map fun i => .int .u8 ((u8V (Q i)).toNat : Nat), hblk, rfl, by simp; omega, by simp [AV.one], ?_, fun i x hx => ?_, fun f hf => by cases hf⟩
    · have : ∀ l : List Nat, concs ρ (l.map fun i => .int .u8 ((u8V (Q i)).toNat : Nat)) = some (l.map fun i => .int .u8 ((u8V (Q i)).toNat : Nat)) := fun l => by
        induction l with
        | nil => rfl
        | cons a r ih => simp only [List.map_cons, concs, Eng.conc, ih]
      exact this _
    · obtain ⟨hi, _⟩ := List.getElem?_eq_some_iff.1 hx
      have hi : i < len := by simpa using hi
      rw [hcell i (by omega)]
      rw [← hx]
      simp [hi]
  · refine ⟨fun l hl => ?_, .inr (.inl ⟨b, 0, 0, .at_ m, ty, _, none, by simp, hb, hg, by simp, ?_, by simp; exact hl⟩)⟩
    · obtain ⟨l', _, rfl⟩ := List.mem_map.1 hl; rfl
    · have := flatten_single ((List.range len).map fun i => (.int .u8 ((u8V (Q i)).toNat : Nat) : AV))
      rw [List.map_map] at this
      simp only [List.map_map, List.length_map, List.length_range, Nat.mul_one, List.drop_zero]
      rw [List.take_of_length_le (by simp)]
      exact this.symm
theorem weightsAll_mem {H : Type} {P : Program} {e : TypeId} : ∀ {l : List (DataW H)} {d : DataW H}, d ∈ l → ∀ n ∈ d.weights P e, n ∈ DataW.weightsAll P e l
  | d' :: r, d, hd, n, hn => by
    simp only [DataW.weightsAll, List.mem_append]
    rcases List.mem_cons.1 hd with rfl | h
    · exact Or.inl hn
    · exact Or.inr (weightsAll_mem h n hn)
end Go.Eng
