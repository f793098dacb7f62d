/- Law 41: the law at every world that lays the variables. -/
import Derived.Test.YtcjgagkkanokjacGreatDoorB13
import Derived.Test.YtcjgagkkanokjacGreatDoorA43
namespace Go.Eng.L41
open Go.Proofs Go.Eng
open Go.ChangeShapes Go.WideShapes Go.ChangeAt Go.RowKit Go.Deep
open Go.Proofs.YtcjgagkkanokjacGreatDoor
open Classical in
noncomputable def oc41 : CallFn := fun f args h => if f = 6 ∧ args = [] ∧ Laid h then some (.bool true, h) else none
theorem oc41_inv {f : FuncId} {args : List AV} {h : AHeap} {r : AV × AHeap} (ho : oc41 f args h = some r) : f = 6 ∧ args = [] ∧ Laid h ∧ r = (.bool true, h) := by
  unfold oc41 at ho
  split at ho
  · rename_i hc
    cases ho
    exact ⟨hc.1, hc.2.1, hc.2.2, rfl⟩
  · cases ho
@[reducible] noncomputable def O41b : O41 :=
  { call := oc41
    nx := fun f args h r h' ho => by
      obtain ⟨_, _, _, he⟩ := oc41_inv ho
      cases he; exact Nx.refl _
    only := fun f args h hf => by
      cases ho : oc41 f args h with
      | none => rfl
      | some r => exact absurd (oc41_inv ho).1 hf }
theorem oc_ok : CallOk Tryz.prog (@Orc.call O41b.toOrc) := by
  intro f args h r h' ρ w cargs ho hs hargs
  change oc41 f args h = some (r, h') at ho
  obtain ⟨rfl, rfl, hl, he⟩ := oc41_inv ho
  cases he
  simp only [concs, Option.some.injEq] at hargs
  subst hargs
  exact awake_any hl hs
theorem awake_spec : ∀ h, Laid h → @Ca Tryz.prog O41b.toOrc 6 [] h fun r h' => r = .bool true ∧ h' = h := fun h hl =>
  @Ca_of Tryz.prog O41b.toOrc 6 [] h h (.bool true) 0 (by show oc41 6 [] h = _; unfold oc41; rw [if_pos ⟨rfl, rfl, hl⟩]) _ ⟨rfl, rfl⟩
theorem list_simG {L : List (AObj × Option Place)} {W : World} (hw : ∀ p ∈ L, p.1.writes = false) (ho : ∀ p ∈ L, p.1.live = true → ∃ pl, p.2 = some pl ∧ ObjRel (listRho L) p.1 pl W) (hgl : ∀ g, g < 10 → ∃ e, listRho L g = some ⟨g, 0, e, none⟩) (hlen : 10 ≤ L.length) :
    ∃ h : AHeap, h.next = L.length ∧ h.glob = 10 ∧ (∀ b, h.get b = match L[b]? with | some p => p.1 | none => .dead) ∧ Sim (listRho L) h W ∧ ∀ b, (h.get b).writes = false := by
  obtain ⟨h, h1, h2, h3, h4⟩ := list_sim hw ho
  have hg : ∀ b, ({ h with glob := 10 } : AHeap).get b = h.get b := fun b => rfl
  exact ⟨{ h with glob := 10 }, h1, rfl, h2, ⟨h3.rng, h3.obj, h3.sep, hgl, by show 10 ≤ h.next; omega⟩, h4⟩
set_option maxRecDepth 100000 in
theorem law_world {H : Type} {enc : TypeId × Value → H} {W : World} {base : Nat} {v0 : Value} {d0 : DataW H} {q0 : List MemPlace} {s : ByteArray} (k0 : Value.okWide Tryz.prog W .any base 23 v0)
    (e0 : DataW.Trod enc Tryz.prog W 0 (fun _ => true) true 23 v0 d0 q0) (hsz : ∀ n ∈ d0.weights Tryz.prog 23, n ≤ reachBytes) (hs : s.data.toList.length ≤ 140737488355328) (hL : laidMetH Tryz.prog Rows.shellMatchesRow.laid W) :
    Calls Tryz.prog 3 #[v0, .string s] W fun e W' => e = .returned (.bool true) ∧ Go.RowKit.Below W.heap.size W W' := by
  obtain ⟨⟨cs1, f1, p1, hv1, hd1⟩, cs2, f2, p2, hv2, hd2⟩ := laid_vars hL
  obtain ⟨t1, fz1, hb1⟩ := row_of_var gOps hv1
  obtain ⟨t2, fz2, hb2⟩ := row_of_var gBeh hv2
  obtain ⟨blk, off, c, ty, fz, hc1, hblk, hend, hcell⟩ := ops_of hd1
  obtain ⟨bm, es, clock, es0, hc2, hbm, hperm, hent⟩ := beh_of hd2
  obtain ⟨w⟩ := open_word k0 e0 hsz
  have e1 : cs1 = #[.slice (some ⟨blk, off, none⟩) 8 8] := by apply Array.ext'; simpa using hc1
  have e2 : cs2 = #[.map (some bm)] := by apply Array.ext'; simpa using hc2
  obtain ⟨L, hLd⟩ : ∃ L : List (AObj × Option Place), L = [(.dead, some ⟨0, 0, 0, none⟩), (.cells t1 [.sl 10 0 0 8 (.at_ 8)] none, some ⟨1, 0, cs1.size, none⟩), (.cells t2 [.map 11] none, some ⟨2, 0, cs2.size, none⟩),
    (.dead, some ⟨3, 0, 0, none⟩), (.dead, some ⟨4, 0, 0, none⟩), (.dead, some ⟨5, 0, 0, none⟩), (.dead, some ⟨6, 0, 0, none⟩), (.dead, some ⟨7, 0, 0, none⟩), (.dead, some ⟨8, 0, 0, none⟩), (.dead, some ⟨9, 0, 0, none⟩),
    (.cells ty opsL none, some ⟨blk, off, c.size, none⟩), (.map behL 4 false, some ⟨bm, 0, 0, none⟩), (w.o, w.pl)] := ⟨_, rfl⟩
  have r10 : listRho L 10 = some ⟨blk, off, c.size, none⟩ := by rw [hLd]; rfl
  have r11 : listRho L 11 = some ⟨bm, 0, 0, none⟩ := by rw [hLd]; rfl
  have r12 : listRho L 12 = w.pl := by rw [hLd]; rfl
  have hlen : L.length = 13 := by rw [hLd]; rfl
  have hLw : ∀ p ∈ L, p.1.writes = false := by
    rw [hLd]
    intro p hp
    simp only [List.mem_cons, List.not_mem_nil, or_false] at hp
    rcases hp with rfl | rfl | rfl | rfl | rfl | rfl | rfl | rfl | rfl | rfl | rfl | rfl | rfl <;> first | rfl | exact w.wr
  have o1 : ObjRel (listRho L) (.cells t1 [.sl 10 0 0 8 (.at_ 8)] none) ⟨1, 0, cs1.size, none⟩ W := by
    refine ⟨cs1, fz1, [.slice (some ⟨blk, off, none⟩) 8 8], hb1, rfl, by rw [e1]; simp, rfl, ?_, fun i x hx => ?_, fun f hf => by cases hf⟩
    · simp only [concs, conc, r10, slVal]
      rw [if_pos ⟨show 8 ≤ slCap ⟨blk, off, c.size, none⟩ 0 (.at_ 8) from Nat.le_refl _, Nat.zero_le _, fun _ => trivial⟩]
      simp [slAt, slCap]
    · rw [e1]; simpa using hx
  have o2 : ObjRel (listRho L) (.cells t2 [.map 11] none) ⟨2, 0, cs2.size, none⟩ W := by
    refine ⟨cs2, fz2, [.map (some bm)], hb2, rfl, by rw [e2]; simp, rfl, ?_, fun i x hx => ?_, fun f hf => by cases hf⟩
    · simp [concs, conc, r11]
    · rw [e2]; simpa using hx
  have o10 : ObjRel (listRho L) (.cells ty opsL none) ⟨blk, off, c.size, none⟩ W :=
    ⟨c, fz, opsV, hblk, rfl, hend, rfl, ops_conc _, hcell, fun f hf => by cases hf⟩
  have o11 : ObjRel (listRho L) (.map behL 4 false) ⟨bm, 0, 0, none⟩ W := ⟨es, clock, hbm, es0, hperm, hent _⟩
  have hLo : ∀ p ∈ L, p.1.live = true → ∃ pl, p.2 = some pl ∧ ObjRel (listRho L) p.1 pl W := by
    intro p hp hlv
    rw [hLd] at hp
    simp only [List.mem_cons, List.not_mem_nil, or_false] at hp
    rcases hp with rfl | rfl | rfl | rfl | rfl | rfl | rfl | rfl | rfl | rfl | rfl | rfl | rfl
    · cases hlv
    · exact ⟨_, rfl, o1⟩
    · exact ⟨_, rfl, o2⟩
    · cases hlv
    · cases hlv
    · cases hlv
    · cases hlv
    · cases hlv
    · cases hlv
    · cases hlv
    · exact ⟨_, rfl, o10⟩
    · exact ⟨_, rfl, o11⟩
    · obtain ⟨pl, h1, h2⟩ := w.live hlv
      exact ⟨pl, h1, h2 _⟩
  have hgl : ∀ g, g < 10 → ∃ e, listRho L g = some ⟨g, 0, e, none⟩ := by
    intro g hg
    rw [hLd]
    match g, hg with
    | 0, _ => exact ⟨_, rfl⟩
    | 1, _ => exact ⟨_, rfl⟩
    | 2, _ => exact ⟨_, rfl⟩
    | 3, _ => exact ⟨_, rfl⟩
    | 4, _ => exact ⟨_, rfl⟩
    | 5, _ => exact ⟨_, rfl⟩
    | 6, _ => exact ⟨_, rfl⟩
    | 7, _ => exact ⟨_, rfl⟩
    | 8, _ => exact ⟨_, rfl⟩
    | 9, _ => exact ⟨_, rfl⟩
  obtain ⟨h, hn, hglob, hg, hsim, hnw⟩ := list_simG hLw hLo hgl (by omega)
  have hwd : Wd h (w.a 12) w.ps := w.wd h 12 (by omega) (by rw [hg, hLd]; rfl)
  have hlaid : LaidB h := by
    refine ⟨by omega, by omega, 10, 11, t1, t2, ty, by omega, by omega, ?_, ?_, ?_, ?_⟩ <;> (rw [hg, hLd]; rfl)
  obtain ⟨n, r, h', hrun, rfl⟩ := @Ca_out Tryz.prog O41b.toOrc _ _ _ _ (@law_sp O41b awake_spec h (w.a 12) w.ps s.data.toList hwd (by have := w.len; omega) hlaid (by omega) (fun p hp => by have := w.txt p hp; omega) (fun _ _ _ ho => plain_law w.ps s.data.toList ho))
  have hargs : concs (listRho L) [w.a 12, .str s.data.toList] = some [v0, .string s] := by
    refine concs_cons_mk (w.conc _ 12 r12) (concs_cons_mk ?_ rfl)
    simp [conc]
  have := @acall_sound Tryz.prog O41b.toOrc pok oc_ok n 3 _ h _ h' (listRho L) W _ hrun hsim hargs
  refine Calls.mono this ?_
  rintro e W' ⟨cv, ρ', rfl, hcv, hst⟩
  simp only [conc, Option.some.injEq] at hcv
  subst hcv
  exact ⟨rfl, hst.keep.os, hst.keep.tape, hst.keep.output, hst.keep.size, fun k hk => (hst.keep.old k hk fun ⟨b, pl, hb, _⟩ => by rw [hnw b] at hb; cases hb).1⟩
end Go.Eng.L41
