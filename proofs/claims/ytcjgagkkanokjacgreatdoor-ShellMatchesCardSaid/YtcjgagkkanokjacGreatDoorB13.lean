/- Law 41: the variables that awake reads, as the row lays them. -/
import Derived.Test.YtcjgagkkanokjacGreatDoorB12
import Derived.Test.YtcjgagkkanokjacGreatDoorRows
import Derived.LaidMore
import Derived.OpenShut
import Derived.Stop.Joined
namespace Go.Eng.L41
open Go.Proofs Go.Eng
open Go.ChangeShapes Go.WideShapes Go.ChangeAt Go.WideMaps Go.WideElems Go.RowKit
open Go.Proofs.YtcjgagkkanokjacGreatDoor
theorem gOps : Tryz.prog.globalNamed "orpiment/shell.operators" = some 1 := by kernel_rfl
theorem gBeh : Tryz.prog.globalNamed "orpiment/shell.behind" = some 2 := by kernel_rfl
theorem tOps : (Tryz.prog.globals[1]?).map (·.type) = some 94 := by kernel_rfl
theorem tBeh : (Tryz.prog.globals[2]?).map (·.type) = some 98 := by kernel_rfl
theorem sl94 : Tryz.prog.underlying 94 = some (.slice 9) := by kernel_rfl
theorem mp98 : Tryz.prog.underlying 98 = some (.map 9 3) := by kernel_rfl
theorem row_of_var {W : World} {n : String} {g : Nat} {cs : Array Value} (hg : Tryz.prog.globalNamed n = some g) (h : W.var? Tryz.prog n = some cs) : ∃ t fz, W.heap[g]? = some (.cells cs t fz) := by
  simp only [World.var?, hg, Option.bind_some] at h
  split at h
  · rename_i c t fz hh
    cases h
    exact ⟨t, fz, hh⟩
  · cases h
theorem laid_vars {W : World} (h : laidMetH Tryz.prog Rows.shellMatchesRow.laid W) :
    (∃ cs f p, W.var? Tryz.prog "orpiment/shell.operators" = some cs ∧ DataW.trod (fun _ => ()) Tryz.prog W 0 (fun _ => true) false f 94 cs.toList = some (Rows.laid_orpiment_shell_operators, p)) ∧
    ∃ cs f p, W.var? Tryz.prog "orpiment/shell.behind" = some cs ∧ DataW.trod (fun _ => ()) Tryz.prog W 0 (fun _ => true) false f 98 cs.toList = some (Rows.laid_orpiment_shell_behind, p) := by
  rw [MakeChecks.laidMetH_plain _ _ _ (by kernel_rfl)] at h
  obtain ⟨ps, ⟨g0, t0, cs0, f0, p0, q0, hg0, ht0, hv0, hd0, ⟨g1, t1, cs1, f1, p1, q1, hg1, ht1, hv1, hd1, ⟨g2, t2, cs2, f2, p2, q2, hg2, ht2, hv2, hd2, ⟨g3, t3, cs3, f3, p3, q3, hg3, ht3, hv3, hd3,
    ⟨g4, t4, cs4, f4, p4, q4, hg4, ht4, hv4, hd4, ⟨g5, t5, cs5, f5, p5, q5, hg5, ht5, hv5, hd5, ⟨g6, t6, cs6, f6, p6, q6, hg6, ht6, hv6, hd6, ⟨g7, t7, cs7, f7, p7, q7, hg7, ht7, hv7, hd7, _, _⟩, _⟩, _⟩, _⟩, _⟩, _⟩, _⟩, _⟩, _, _⟩ := h
  obtain rfl := Option.some.inj (gOps.symm.trans hg6)
  obtain rfl := Option.some.inj (gBeh.symm.trans hg7)
  obtain rfl := Option.some.inj (tOps.symm.trans ht6)
  obtain rfl := Option.some.inj (tBeh.symm.trans ht7)
  exact ⟨⟨cs6, f6, p6, hv6, hd6⟩, cs7, f7, p7, hv7, hd7⟩
def opsB : List ByteArray := [⟨#[38, 38]⟩, ⟨#[124, 124]⟩, ⟨#[62, 62]⟩, ⟨#[59]⟩, ⟨#[124]⟩, ⟨#[38]⟩, ⟨#[62]⟩, ⟨#[60]⟩]
def opsV : List Value := opsB.map .string
theorem ops_conc (ρ : Rho) : concs ρ opsL = some opsV := rfl
theorem ba_ext {a b : ByteArray} (h : a.data.toList = b.data.toList) : a = b := by
  obtain ⟨⟨x⟩⟩ := a
  obtain ⟨⟨y⟩⟩ := b
  simp at h
  rw [h]
def strOfD : DataW Unit → List UInt8
  | .lit (.string b) => b
  | _ => []
theorem ops_of {W : World} {cs : List Value} {f : Nat} {p : List MemPlace} (h : DataW.trod (fun _ => ()) Tryz.prog W 0 (fun _ => true) false f 94 cs = some (Rows.laid_orpiment_shell_operators, p)) :
    ∃ blk off c ty fz, cs = [.slice (some ⟨blk, off, none⟩) 8 8] ∧ W.heap[blk]? = some (.cells c ty fz) ∧ off + 8 ≤ c.size ∧ ∀ i x, opsV[i]? = some x → c[off + i]? = some x := by
  rcases open_strings sl94 st9 co9 h with ⟨_, hx⟩ | ⟨a, len, cap, ss, rfl, _, hl, _, hlen, hx, hc, _⟩
  · simp [Rows.laid_orpiment_shell_operators] at hx
  simp only [if_true] at hlen
  simp only [Rows.laid_orpiment_shell_operators, Prod.mk.injEq, DataW.slice.injEq] at hx
  obtain ⟨⟨h1, h2⟩, _⟩ := hx
  have hd : (ss.drop len).length = 0 := by
    have := congrArg List.length h2
    unfold ChangeShapes.strs at this
    rw [List.length_map, List.length_nil] at this
    exact this.symm
  have hss : ss.take len = ss := by
    rw [List.length_drop] at hd
    exact List.take_of_length_le (by omega)
  rw [hss] at h1
  have hmap : ss.map (fun s => s.data.toList) = opsB.map fun s => s.data.toList := by
    have e1 : ∀ l : List ByteArray, (ChangeShapes.strs (H := Unit) l).map strOfD = l.map fun s => s.data.toList := fun l => by
      unfold ChangeShapes.strs
      rw [List.map_map]; rfl
    have := congrArg (List.map strOfD) h1
    rw [e1] at this
    rw [← this]; rfl
  have hse : ss = opsB := by
    apply List.ext_getElem?
    intro i
    have := congrArg (fun l : List (List UInt8) => l[i]?) hmap
    simp only [List.getElem?_map] at this
    cases h3 : ss[i]? with
    | none => rw [h3] at this; cases h4 : opsB[i]? with
      | none => rfl
      | some y => rw [h4] at this; cases this
    | some x => rw [h3] at this; cases h4 : opsB[i]? with
      | none => rw [h4] at this; cases this
      | some y =>
        rw [h4] at this
        simp only [Option.map_some, Option.some.injEq] at this
        rw [ba_ext this]
  subst hse
  have h8 : opsB.length = 8 := rfl
  rw [List.length_drop] at hd
  obtain rfl : cap = 8 := by omega
  obtain rfl : len = 8 := by omega
  obtain ⟨blk, off, spot⟩ := a
  have c0 := hc 0 (by omega)
  obtain ⟨c, ty, fz, hblk, hsp⟩ : ∃ c ty fz, W.heap[blk]? = some (.cells c ty fz) ∧ spot = none := by
    unfold World.cell? at c0
    simp [Addr.add] at c0
    split at c0
    · rename_i c ty fz hb
      refine ⟨c, ty, fz, hb, ?_⟩
      cases spot with
      | none => rfl
      | some s => simp at c0
    · cases c0
  subst hsp
  have hcell : ∀ i, i < 8 → c[off + i]? = some (.string (opsB.getD i ByteArray.empty)) := fun i hi => by
    have := hc i (by omega)
    rw [addr_add, cell_of hblk] at this
    exact this
  refine ⟨blk, off, c, ty, fz, rfl, hblk, ?_, fun i x hx => ?_⟩
  · have := (Array.getElem?_eq_some_iff.1 (hcell 7 (by omega))).1
    omega
  · have hi : i < 8 := (List.getElem?_eq_some_iff.1 hx).1
    rw [hcell i hi, ← hx]
    simp only [opsV, List.getElem?_map, List.getD, List.getElem?_eq_getElem (show i < opsB.length from hi)]
    rfl
/-- A pair of the reading, as the engine has it. -/
def dec (x : Lit × DataW Unit) : AV × AV := match x with
  | (.string b, .lit (.int .i64 n)) => (.str b, .int .i64 n)
  | _ => (.nilptr, .nilptr)
set_option maxRecDepth 100000 in
theorem beh_of {W : World} {cs : List Value} {f : Nat} {p : List MemPlace} (h : DataW.trod (fun _ => ()) Tryz.prog W 0 (fun _ => true) false f 98 cs = some (Rows.laid_orpiment_shell_behind, p)) :
    ∃ bm es clock es0, cs = [.map (some bm)] ∧ W.heap[bm]? = some (.map es clock) ∧ (kvs es0).Perm (kvs behL) ∧ ∀ ρ, entRel ρ es0 es.toList := by
  rcases Go.WideElems.open_map mp98 h with ⟨_, hx⟩ | ⟨bm, es, clock, m, rfl, rfl, hb, _, F, hx⟩
  · simp [Rows.laid_orpiment_shell_behind] at hx
  simp only [Rows.laid_orpiment_shell_behind, Prod.mk.injEq, DataW.map.injEq] at hx
  obtain ⟨hx, _⟩ := hx
  obtain ⟨R, hR⟩ : ∃ R, R = elemAt (fun _ => ()) Tryz.prog W 0 (fun _ => true) false m 3 := ⟨_, rfl⟩
  rw [← hR] at hx F
  have hp := sorted_perm (es.toList.map (rg Tryz.prog 9 R))
  rw [← hx] at hp
  refine ⟨bm, es, clock, es.toList.map (fun x => ((dec (rg Tryz.prog 9 R x)).1, (dec (rg Tryz.prog 9 R x)).2, x.born)), rfl, hb, ?_, fun ρ => ?_⟩
  · have := (hp.map dec).symm
    simp only [kvs, List.map_map, Function.comp_def] at this ⊢
    refine this.trans (List.Perm.of_eq ?_)
    rfl
  · have key : ∀ l : List MapEntry, (∀ x ∈ l, ∃ y, rd Tryz.prog 9 R x = some y) → (∀ x ∈ l, rg Tryz.prog 9 R x ∈ ([(.string [38], .lit (.int .i64 2)), (.string [38, 38], .lit (.int .i64 3)), (.string [59], .lit (.int .i64 1)), (.string [124, 124], .lit (.int .i64 4))] : List (Lit × DataW Unit))) → entRel ρ (l.map fun x => ((dec (rg Tryz.prog 9 R x)).1, (dec (rg Tryz.prog 9 R x)).2, x.born)) l := by
      intro l
      induction l with
      | nil => intro _ _; trivial
      | cons x l ih =>
        intro h1 h2
        obtain ⟨y, hy⟩ := h1 x (by simp)
        have hm := h2 x (by simp)
        have hk := rd_key hy
        have hv : ∃ q, R x.val = some (y.2, q) := by
          unfold Go.WideElems.rd at hy
          simp only [Option.bind_eq_some_iff, Option.map_eq_some_iff] at hy
          obtain ⟨key, _, z, h3, rfl⟩ := hy
          exact ⟨z.2, h3⟩
        obtain ⟨q, hv⟩ := hv
        rw [rg_of hy] at hm
        rw [hR] at hv
        obtain ⟨a, ha, hz, _⟩ := elemAt_int it3 hv
        obtain ⟨s, hs, hs2, _⟩ := string_of_keyOf st9 hk
        obtain ⟨y1, y2⟩ := y
        simp only [Prod.mk.injEq] at hz
        simp only at hs2
        obtain ⟨rfl, _⟩ := hz
        subst hs2
        refine ⟨?_, ?_, rfl, ih (fun z hz => h1 z (by simp [hz])) (fun z hz => h2 z (by simp [hz]))⟩
        · rw [rg_of hy, hs]
          simp [dec, conc]
        · rw [rg_of hy, ha]
          simp [dec, conc]
    refine key es.toList F.reads fun x hx => ?_
    exact hp.mem_iff.2 (List.mem_map.2 ⟨x, hx, rfl⟩)
end Go.Eng.L41
