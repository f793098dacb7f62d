/- Law 41: the word that comes in, opened. -/
import Derived.Test.YtcjgagkkanokjacGreatDoorB11
import Derived.Test.YtcjgagkkanokjacGreatDoorE25
import Derived.ProofKit
namespace Go.Eng.L41
open Go.Proofs Go.Eng
open Go.ChangeShapes Go.WideShapes Go.ChangeAt Go.RowKit Go.Deep
theorem co25 : Tryz.prog.cellsOf 25 = 2 := by kernel_rfl
theorem co3 : Tryz.prog.cellsOf 3 = 1 := by kernel_rfl
theorem co9 : Tryz.prog.cellsOf 9 = 1 := by kernel_rfl
theorem bo25 : Tryz.prog.bytesOf 25 = 24 := by kernel_rfl
def fsB (P : Program) : Bool := match P.underlying 25 with
  | some (.struct fs) => match fs.toList with
    | [f0, f1] => Nat.beq f0.type 3 && Nat.beq f0.offset 0 && Nat.beq f1.type 9 && Nat.beq f1.offset 1
    | _ => false
  | _ => false
theorem fsB_true : fsB Tryz.prog = true := by kernel_rfl
theorem fs25 : ∃ f0 f1 : Field, Tryz.prog.underlying 25 = some (.struct #[f0, f1]) ∧ (f0.type = 3 ∧ f0.offset = 0) ∧ (f1.type = 9 ∧ f1.offset = 1) := by
  have h := fsB_true
  unfold fsB at h
  split at h
  · rename_i fs hu
    split at h
    · rename_i f0 f1 hl
      simp only [Bool.and_eq_true, Nat.beq_eq] at h
      obtain ⟨⟨⟨a0, b0⟩, a1⟩, b1⟩ := h
      have e : fs = #[f0, f1] := by apply Array.ext'; simpa using hl
      rw [e] at hu
      exact ⟨f0, f1, hu, ⟨a0, b0⟩, a1, b1⟩
    · cases h
  · cases h
/-- The values of a part. -/
def pv (p : Prt) : List Value := [.int .i64 p.1, .string ⟨p.2.toArray⟩]
theorem pv_len (p : Prt) : (pv p).length = 2 := rfl
theorem conc_pc (ρ : Rho) (p : Prt) : concs ρ (pc p) = some (pv p) := rfl
set_option maxRecDepth 100000 in
theorem open_part {H : Type} {enc : TypeId × Value → H} {W : World} {fuel : Nat} {cs : List Value} {d : DataW H × List MemPlace} (h : DataW.trod enc Tryz.prog W 0 (fun _ => true) true fuel 25 cs = some d) :
    ∃ p : Prt, cs = pv p ∧ ∃ n ∈ d.1.weights Tryz.prog 25, p.2.length ≤ n := by
  obtain ⟨f0, f1, hu, ⟨a0, b0⟩, a1, b1⟩ := fs25
  obtain ⟨xs, n, _, rfl, hl, hlen, hx⟩ := DataW.trod_struct hu h
  rw [co25] at hl
  match xs, hlen, cs, hl with
  | [y0, y1], _, [c0, c1], _ =>
    have h0 := hx 0 f0 rfl
    have h1 := hx 1 f1 rfl
    rw [a0, b0, co3] at h0
    rw [a1, b1, co9] at h1
    simp only [List.drop_zero, List.drop_succ_cons, List.take_succ_cons, List.take_zero, List.getElem?_cons_zero, List.getElem?_cons_succ] at h0 h1
    obtain ⟨q0, e0, _⟩ := DataW.trod_int it3 h0
    obtain ⟨s, e1, e2, _⟩ := DataW.trod_string st9 h1
    simp only [List.cons.injEq, and_true] at e0 e1
    subst e0; subst e1
    refine ⟨(q0, s.data.toList), by simp [pv], s.data.toList.length, ?_, Nat.le_refl _⟩
    simp only [DataW.weights, hu]
    refine DataW.weights_mem_each (j := 1) (t := 9) (d := y1.1) (by simp [a1]) rfl _ ?_
    rw [e2]
    simp [DataW.weights]
theorem concs_flatten {ρ : Rho} {R : Nat → List AV} {V : Nat → List Value} : ∀ n, (∀ i, i < n → concs ρ (R i) = some (V i)) → concs ρ ((List.range n).map R).flatten = some ((List.range n).map V).flatten
  | 0, _ => rfl
  | n + 1, h => by
    rw [List.range_succ, List.map_append, List.map_append, List.flatten_append, List.flatten_append]
    refine concs_append _ _ _ _ (concs_flatten n fun i hi => h i (by omega)) ?_
    simpa using h n (by omega)
instance : Inhabited Prt := ⟨(0, [])⟩
/-- What is known of the word that comes in. -/
structure WArg (W : World) (v : Value) where
  a : Nat → AV
  o : AObj
  pl : Option Place
  ps : List Prt
  conc : ∀ (ρ : Rho) b, ρ b = pl → conc ρ (a b) = some v
  wr : o.writes = false
  live : o.live = true → ∃ p, pl = some p ∧ ∀ ρ, ObjRel ρ o p W
  wd : ∀ (h : AHeap) b, b < h.next → h.get b = o → Wd h (a b) ps
  len : ps.length ≤ 140737488355328
  txt : ∀ p ∈ ps, p.2.length ≤ 140737488355328
set_option maxRecDepth 100000 in
theorem open_word {H : Type} {enc : TypeId × Value → H} {W : World} {base : Nat} {v : Value} {d : DataW H} {ps : List MemPlace} (hval : Value.okWide Tryz.prog W .any base 23 v) (h : DataW.Trod enc Tryz.prog W 0 (fun _ => true) true 23 v d ps) (hsz : ∀ n ∈ d.weights Tryz.prog 23, n ≤ reachBytes) :
    Nonempty (WArg W v) := by
  have hv : v = .slice none 0 0 ∨ ∃ a len cap, v = .slice (some a) len cap ∧ a.spot = none := by
    unfold Value.okWide Cell.okWide Cell.ok at hval
    simp only [sl23] at hval
    cases v <;> simp at hval
    rename_i a len cap
    cases a with
    | none =>
      left
      cases len <;> cases cap <;> simp_all
    | some a =>
      simp at hval
      exact .inr ⟨a, len, cap, rfl, hval.2.2.2.1⟩
  rcases hv with rfl | ⟨a, len, cap, rfl, hsp⟩
  · exact ⟨⟨fun _ => .nilsl, .dead, none, [], fun _ _ _ => rfl, rfl, fun h => (by cases h), fun h b _ _ => ⟨by simp, .inl ⟨rfl, rfl⟩⟩, by simp, by simp⟩⟩
  obtain ⟨fuel, hd⟩ := h
  rcases open_slice sl23 (by simpa [Value.cells] using hd) with ⟨h0, _⟩ | ⟨a', len', cap', k, n, D, Pl, h0, _, hl, _, hk, hdd, hx⟩
  · simp at h0
  simp only [List.cons.injEq, Value.slice.injEq, Option.some.injEq, and_true] at h0
  obtain ⟨rfl, rfl, rfl⟩ := h0
  simp only [if_true] at hk
  rw [hk] at hx hdd
  obtain ⟨blk, off, spot⟩ := a
  simp only at hsp
  subst hsp
  have hd1 : d = .slice ((List.range len).map D) ((List.range (cap - len)).map fun j => D (len + j)) := congrArg Prod.fst hdd
  have hrb : reachBytes = 140737488351232 := rfl
  have hlen : len ≤ 140737488355328 := by
    have := hsz ((((List.range len).map D).length + ((List.range (cap - len)).map fun j => D (len + j)).length) * Tryz.prog.bytesOf 25) (by rw [hd1]; simp [DataW.weights, sl23])
    rw [bo25] at this
    simp at this
    omega
  by_cases hz : len = 0
  · subst hz
    refine ⟨⟨fun b => .sl b off off 0 (.at_ cap), .dead, some ⟨blk, 0, 0, none⟩, [], fun ρ b hb => ?_, rfl, fun h => (by cases h), fun h b hb _ => ⟨by simp, .inr (.inr ⟨rfl, b, off, off, .at_ cap, hb, rfl, Nat.zero_le _⟩)⟩, by simp, by simp⟩⟩
    simp only [Eng.conc, hb, slVal]
    rw [if_pos ⟨Nat.zero_le _, Nat.zero_le _, fun _ => trivial⟩]
    simp only [slAt, slCap]
    cases Nat.beq cap 0 <;> simp
  have hel : ∀ i, i < len → ∃ o : Prt, (∀ j, j < 2 → W.cell? ⟨blk, off + i * 2 + j, none⟩ = (pv o)[j]?) ∧ o.2.length ≤ 140737488355328 := fun i hi => by
    obtain ⟨cs', h1, h2⟩ := hx i (by omega)
    obtain ⟨o, rfl, n, hn, h5⟩ := open_part h2
    obtain ⟨_, _, h4⟩ := World.cells?_some h1
    rw [co25] at h4
    refine ⟨o, fun j hj => ?_, ?_⟩
    · have := h4 j hj
      rw [addr_add, addr_add] at this
      exact this
    · have := hsz n (by
        rw [hd1]
        simp only [DataW.weights, sl23, List.mem_cons, List.mem_append]
        exact .inr (.inl (weightsAll_mem (List.mem_map.2 ⟨i, by simpa using hi, rfl⟩) n hn)))
      omega
  obtain ⟨T, hT⟩ := choose_lt (p := fun i (o : Prt) => (∀ j, j < 2 → W.cell? ⟨blk, off + i * 2 + j, none⟩ = (pv o)[j]?) ∧ o.2.length ≤ 140737488355328) hel
  have h00 := (hT 0 (by omega)).1 0 (by omega)
  obtain ⟨c, ty, fz, hblk⟩ : ∃ c ty fz, W.heap[blk]? = some (.cells c ty fz) := by
    unfold World.cell? at h00
    simp only at h00
    split at h00
    · rename_i c ty fz hb; exact ⟨c, ty, fz, hb⟩
    · simp [pv] at h00
  have hcell : ∀ i, i < len → ∀ j, j < 2 → c[off + i * 2 + j]? = (pv (T i))[j]? := fun i hi j hj => by
    have := (hT i hi).1 j hj
    unfold World.cell? at this
    simpa [hblk] using this
  have hls : ∀ l ∈ (List.range len).map fun i => pv (T i), l.length = 2 := fun l hl => by
    obtain ⟨i, hi, rfl⟩ := List.mem_map.1 hl
    rfl
  have hfl := flatten_len hls
  rw [List.length_map, List.length_range] at hfl
  have hq : ∀ q, q < len * 2 → c[off + q]? = ((List.range len).map fun i => pv (T i)).flatten[q]? := fun q hq => by
    have hi : q / 2 < len := Nat.div_lt_of_lt_mul (by rw [Nat.mul_comm]; exact hq)
    have hj : q % 2 < 2 := Nat.mod_lt _ (by omega)
    have e : q = q / 2 * 2 + q % 2 := (Nat.div_add_mod' q 2).symm
    have h1 := hcell (q / 2) hi (q % 2) hj
    rw [Nat.add_assoc, ← e] at h1
    rw [h1]
    have h2 := flatten_at hls (q / 2) (by simpa using hi)
    have h3 := congrArg (fun l : List Value => l[q % 2]?) h2
    simp only [List.getElem?_take, if_pos hj, List.getElem?_drop, ← e, List.getElem_map, List.getElem_range] at h3
    exact h3.symm
  have hend : off + len * 2 ≤ c.size := by
    have h1 := hq (len * 2 - 1) (by omega)
    rw [List.getElem?_eq_getElem (by rw [hfl]; omega)] at h1
    obtain ⟨h2, _⟩ := Array.getElem?_eq_some_iff.1 h1
    omega
  have hrow : ∀ l ∈ (List.range len).map fun i => pc (T i), l.length = 2 := fun l hl => by
    obtain ⟨i, _, rfl⟩ := List.mem_map.1 hl; rfl
  have hrl := flatten_len hrow
  rw [List.length_map, List.length_range] at hrl
  refine ⟨⟨fun b => .sl b 0 0 len (.at_ cap), .cells ty ((List.range len).map fun i => pc (T i)).flatten none, some ⟨blk, off, c.size, none⟩, (List.range len).map T, fun ρ b hb => ?_, rfl, fun _ => ⟨_, rfl, fun ρ => ⟨c, fz, ((List.range len).map fun i => pv (T i)).flatten, hblk, rfl, by rw [hrl]; exact hend, ?_, concs_flatten len fun i _ => conc_pc ρ (T i), fun i x hx => ?_, fun f hf => by cases hf⟩⟩, fun h b hb hg => ?_, by simpa using hlen, fun p hp => ?_⟩⟩
  · simp only [Eng.conc, hb, slVal]
    rw [if_pos ⟨show len ≤ slCap ⟨blk, off, c.size, none⟩ 0 (.at_ cap) from hl, Nat.zero_le _, fun _ => trivial⟩]
    simp only [slAt, slCap]
    cases Nat.beq cap 0 <;> simp
  · rw [List.all_eq_true]
    intro x hx
    obtain ⟨l, hl, hx⟩ := List.mem_flatten.1 hx
    obtain ⟨i, hi, rfl⟩ := List.mem_map.1 hl
    simp [pc] at hx
    rcases hx with rfl | rfl <;> rfl
  · have hi := (List.getElem?_eq_some_iff.1 hx).1
    rw [hfl] at hi
    rw [hq i hi]; exact hx
  · refine ⟨fun l hl => ?_, .inr (.inl ⟨b, 0, 0, .at_ cap, ty, ((List.range len).map fun i => pc (T i)).flatten, none, by simp, hb, hg, by rw [hrl]; simp, ?_, by simp; exact hl⟩)⟩
    · obtain ⟨o, ho, rfl⟩ := List.mem_map.1 hl; rfl
    · rw [List.drop_zero, List.take_of_length_le (by rw [hrl]; simp), List.map_map]; rfl
  · obtain ⟨i, hi, rfl⟩ := List.mem_map.1 hp
    exact (hT i (by simpa using hi)).2
end Go.Eng.L41
