/- Law 35: what is known of awake and Send; the law closed. -/
import Derived.Test.YtcjgagkkanokjabL35BA
import Derived.Test.YtcjgagkkanokjabE25
import Derived.Test.YtcjgagkkanokjabRows
import Derived.ProofKit
namespace Go.Eng.L35
open Go.Proofs Go.Eng
theorem ng_all : (Try.prog.funcs.all fun fn => !(fn.name == "runtime.NumGoroutine")) = true := by kernel_rfl
theorem pok : POk Try.prog := by
  refine ⟨fun f fn hf => ?_, by kernel_rfl⟩
  have := ng_all
  rw [Array.all_eq_true] at this
  obtain ⟨hl, rfl⟩ := Array.getElem?_eq_some_iff.1 hf
  have := this f hl
  simpa using this
@[reducible] def O35n : O35 := { Orc.none with only := fun _ _ _ _ _ => rfl }
theorem n_ok : CallOk Try.prog (@Orc.call O35n.toOrc) := CallOk.none _
/-! ### awake -/
noncomputable def callA : CallFn := fun f args h => bif Nat.beq f 10 then rbody Try.prog (@acall Try.prog Orc.none 30) 30 10 args h else none
@[reducible] noncomputable def orA : Orc := ⟨callA, fun f args h r h' ho => by
  unfold callA at ho
  cases hb : Nat.beq f 10 with
  | false => simp [hb] at ho
  | true => simp [hb] at ho; exact rbody_nx (@acall_nx _ Orc.none 30) _ _ _ _ _ ho⟩
theorem callA_ok : CallOk Try.prog callA := by
  intro f args h r h' ρ w cargs ho hs hargs
  unfold callA at ho
  cases hb : Nat.beq f 10 with
  | false => simp [hb] at ho
  | true =>
    simp [hb] at ho
    obtain rfl := Nat.eq_of_beq_eq_true hb
    exact rbody_sound pok (@acall_sound _ Orc.none pok (CallOk.none _) 30) 30 10 args h r h' ρ w cargs ho hs hargs
def okTrue (r : Option (AV × AHeap)) : Bool := match r with | some (.bool true, _) => true | _ => false
set_option maxRecDepth 100000 in
theorem awake_run : okTrue (@acall Try.prog orA 60 5 [] hp0) = true := by kernel_rfl
/-! ### what is known of calls -/
open Classical in
noncomputable def oc35 : CallFn := fun f args h =>
  if f = 5 then (match args with | [] => some (.bool true, h) | _ => none)
  else if f = 10 then (if hx : ∃ n r, rbody Try.prog (@acall Try.prog O35n.toOrc n) n 10 args h = some r then some (Classical.choose (Classical.choose_spec hx)) else none)
  else none
theorem oc35_send {args : List AV} {h : AHeap} {r : AV × AHeap} (ho : oc35 10 args h = some r) : ∃ n, rbody Try.prog (@acall Try.prog O35n.toOrc n) n 10 args h = some r := by
  unfold oc35 at ho
  rw [if_neg (by decide), if_pos rfl] at ho
  split at ho
  · rename_i hx
    have := Classical.choose_spec (Classical.choose_spec hx)
    simp only [Option.some.injEq] at ho
    rw [ho] at this
    exact ⟨_, this⟩
  · cases ho
theorem oc35_mk {args : List AV} {h : AHeap} {r : AV × AHeap} {n : Nat} (hr : rbody Try.prog (@acall Try.prog O35n.toOrc n) n 10 args h = some r) : oc35 10 args h = some r := by
  have hx : ∃ n r, rbody Try.prog (@acall Try.prog O35n.toOrc n) n 10 args h = some r := ⟨n, r, hr⟩
  cases ho : oc35 10 args h with
  | none =>
    unfold oc35 at ho
    rw [if_neg (by decide), if_pos rfl, dif_pos hx] at ho
    cases ho
  | some r2 =>
    obtain ⟨m, h2⟩ := oc35_send ho
    have a := rbody_mono (@acall_mono Try.prog O35n.toOrc n (max n m) (Nat.le_max_left n m)) (Nat.le_max_left n m) 10 args h r hr
    have b := rbody_mono (@acall_mono Try.prog O35n.toOrc m (max n m) (Nat.le_max_right n m)) (Nat.le_max_right n m) 10 args h r2 h2
    rw [a] at b
    exact b.symm
theorem oc35_other {f : FuncId} {args : List AV} {h : AHeap} (h5 : f ≠ 5) (h10 : f ≠ 10) : oc35 f args h = none := by
  unfold oc35
  rw [if_neg h5, if_neg h10]
theorem oc35_awake {args : List AV} {h : AHeap} {r : AV × AHeap} (ho : oc35 5 args h = some r) : args = [] ∧ r = (.bool true, h) := by
  unfold oc35 at ho
  rw [if_pos rfl] at ho
  split at ho
  · cases ho; exact ⟨rfl, rfl⟩
  · cases ho
@[reducible] noncomputable def O35b : O35 :=
  { call := oc35
    nx := fun f args h r h' ho => by
      by_cases h5 : f = 5
      · subst h5; obtain ⟨_, he⟩ := oc35_awake ho; cases he; exact Nx.refl _
      by_cases h10 : f = 10
      · subst h10
        obtain ⟨n, hx⟩ := oc35_send ho
        exact rbody_nx (@acall_nx _ O35n.toOrc n) _ _ _ _ _ hx
      · rw [oc35_other h5 h10] at ho; cases ho
    only := fun f args h h5 h10 => oc35_other h5 h10 }
theorem oc_ok : CallOk Try.prog (@Orc.call O35b.toOrc) := by
  intro f args h r h' ρ w cargs ho hs hargs
  change oc35 f args h = some (r, h') at ho
  by_cases h5 : f = 5
  · subst h5
    obtain ⟨rfl, he⟩ := oc35_awake ho
    cases he
    simp only [concs, Option.some.injEq] at hargs
    subst hargs
    have hrun := awake_run
    cases hx : @acall Try.prog orA 60 5 [] hp0 with
    | none => rw [hx] at hrun; cases hrun
    | some x =>
      obtain ⟨v, h1⟩ := x
      rw [hx] at hrun
      have hv : v = .bool true := by
        unfold okTrue at hrun
        split at hrun
        · rename_i hh; cases hh; rfl
        · cases hrun
      subst hv
      refine (@acall_sound Try.prog orA pok callA_ok 60 5 [] hp0 _ h1 (fun _ => Option.none) w [] hx (Sim.empty w) rfl).mono ?_
      rintro e w' ⟨c, ρ', rfl, hcv, hst⟩
      exact ⟨c, ρ, rfl, hcv, Step.idle hs hst⟩
  by_cases h10 : f = 10
  · subst h10
    obtain ⟨n, hx⟩ := oc35_send ho
    exact rbody_sound pok (@acall_sound _ O35n.toOrc pok n_ok n) n 10 args h r h' ρ w cargs hx hs hargs
  · rw [oc35_other h5 h10] at ho; cases ho
theorem send_spec : @SendSpec O35b := by
  intro h p s v x bs sz now hp hx hxw hsz hsz0 hsz1 hul
  obtain ⟨n, r, h', hr, hk⟩ := @psend_rb O35n h p s v x bs sz hp now hx hxw hsz hsz0 hsz1 hul
  exact @Ca_of Try.prog O35b.toOrc 10 _ h h' r 0 (oc35_mk hr) _ hk
theorem awake_spec : @AwakeSpec O35b := fun h => @Ca_of Try.prog O35b.toOrc 5 [] h h (.bool true) 0 (by show oc35 5 [] h = _; unfold oc35; rw [if_pos rfl]) _ rfl
end Go.Eng.L35
/- PROVED: 'orpimentlaw35.LinksCalls' returns true for every input, and each argument reads behind the call as it read before (the statement Rows.LinksCallsSaid; no further condition). -/
namespace Go.Eng.L35
open Go.Proofs Go.Eng
open Go.ChangeShapes Go.WideShapes Go.ChangeAt Go.RowKit Go.Deep
theorem co36 : Try.prog.cellsOf 36 = 5 := by kernel_rfl
theorem co34 : Try.prog.cellsOf 34 = 1 := by kernel_rfl
theorem co5 : Try.prog.cellsOf 5 = 1 := by kernel_rfl
theorem co4 : Try.prog.cellsOf 4 = 1 := by kernel_rfl
theorem co3 : Try.prog.cellsOf 3 = 1 := by kernel_rfl
theorem co2 : Try.prog.cellsOf 2 = 1 := by kernel_rfl
theorem bo36 : Try.prog.bytesOf 36 = 56 := by kernel_rfl
theorem bo5 : Try.prog.bytesOf 5 = 1 := by kernel_rfl
def fsB (P : Program) : Bool := match P.underlying 36 with
  | some (.struct fs) => match fs.toList with
    | [f0, f1, f2, f3, f4] => Nat.beq f0.type 3 && Nat.beq f0.offset 0 && Nat.beq f1.type 3 && Nat.beq f1.offset 1 && Nat.beq f2.type 4 && Nat.beq f2.offset 2 && Nat.beq f3.type 34 && Nat.beq f3.offset 3 && Nat.beq f4.type 2 && Nat.beq f4.offset 4
    | _ => false
  | _ => false
theorem fsB_true : fsB Try.prog = true := by kernel_rfl
theorem fs36 : ∃ f0 f1 f2 f3 f4 : Field, Try.prog.underlying 36 = some (.struct #[f0, f1, f2, f3, f4]) ∧ (f0.type = 3 ∧ f0.offset = 0) ∧ (f1.type = 3 ∧ f1.offset = 1) ∧ (f2.type = 4 ∧ f2.offset = 2) ∧ (f3.type = 34 ∧ f3.offset = 3) ∧ (f4.type = 2 ∧ f4.offset = 4) := by
  have h := fsB_true
  unfold fsB at h
  split at h
  · rename_i fs hu
    split at h
    · rename_i f0 f1 f2 f3 f4 hl
      simp only [Bool.and_eq_true, Nat.beq_eq] at h
      obtain ⟨⟨⟨⟨⟨⟨⟨⟨⟨a0, b0⟩, a1⟩, b1⟩, a2⟩, b2⟩, a3⟩, b3⟩, a4⟩, b4⟩ := h
      have e : fs = #[f0, f1, f2, f3, f4] := by apply Array.ext'; simpa using hl
      rw [e] at hu
      exact ⟨f0, f1, f2, f3, f4, hu, ⟨a0, b0⟩, ⟨a1, b1⟩, ⟨a2, b2⟩, ⟨a3, b3⟩, a4, b4⟩
    · cases h
  · cases h
/-- A call of the law's list, opened. -/
structure OD (W : World) where
  kind : Int
  wire : Int
  flag : Bool
  x : BArg W
  now : Int
instance {W : World} : Inhabited (OD W) := ⟨⟨0, 0, false, default, 0⟩⟩
def OD.vals {W : World} (d : OD W) : List Value := [.int .i64 d.kind, .int .i64 d.wire, .bool d.flag, d.x.v, .int .i64 d.now]
def OD.op {W : World} (d : OD W) (i : Nat) : OpV := ⟨d.kind, d.wire, d.now, d.flag, d.x.a (i + 1), d.x.bs⟩
set_option maxRecDepth 100000 in
theorem open_op {H : Type} {enc : TypeId × Value → H} {W : World} {fuel : Nat} {cs : List Value} {d : DataW H × List MemPlace} (h : DataW.trod enc Try.prog W 0 (fun _ => true) true fuel 36 cs = some d) :
    ∃ o : OD W, o.x.Ok ∧ cs = o.vals ∧ (o.x.bs = [] ∨ ∃ n ∈ d.1.weights Try.prog 36, o.x.bs.length ≤ n) := by
  obtain ⟨f0, f1, f2, f3, f4, hu, ⟨a0, b0⟩, ⟨a1, b1⟩, ⟨a2, b2⟩, ⟨a3, b3⟩, a4, b4⟩ := fs36
  obtain ⟨xs, n, _, rfl, hl, hlen, hx⟩ := DataW.trod_struct hu h
  rw [co36] at hl
  match xs, hlen, cs, hl with
  | [y0, y1, y2, y3, y4], _, [c0, c1, c2, c3, c4], _ =>
    have h0 := hx 0 f0 rfl
    have h1 := hx 1 f1 rfl
    have h2 := hx 2 f2 rfl
    have h3 := hx 3 f3 rfl
    have h4 := hx 4 f4 rfl
    rw [a0, b0, co3] at h0
    rw [a1, b1, co3] at h1
    rw [a2, b2, co4] at h2
    rw [a3, b3, co34] at h3
    rw [a4, b4, co2] at h4
    simp only [List.drop_zero, List.drop_succ_cons, List.take_succ_cons, List.take_zero, List.getElem?_cons_zero, List.getElem?_cons_succ] at h0 h1 h2 h3 h4
    obtain ⟨q0, e0, _⟩ := DataW.trod_int it3 h0
    obtain ⟨q1, e1, _⟩ := DataW.trod_int it3 h1
    obtain ⟨q2, e2, _⟩ := DataW.trod_bool bt4 h2
    obtain ⟨x, hok, e3, hw⟩ := open_bytes sl34 it5 co5 h3
    obtain ⟨q4, e4, _⟩ := DataW.trod_int it2 h4
    simp only [List.cons.injEq, and_true] at e0 e1 e2 e3 e4
    subst e0; subst e1; subst e2; subst e3; subst e4
    refine ⟨⟨q0, q1, q2, x, q4⟩, hok, rfl, ?_⟩
    rcases hw with ⟨hw, _⟩ | ⟨elems, spare, hd, hlen⟩
    · exact .inl hw
    · refine .inr ⟨(elems.length + spare.length) * Try.prog.bytesOf 5, ?_, by rw [bo5, ← hlen]; omega⟩
      simp only [DataW.weights, hu]
      refine DataW.weights_mem_each (j := 3) (t := 34) (d := y3.1) (by simp [a3]) rfl _ ?_
      rw [hd]
      simp [DataW.weights, sl34]
theorem concs_flatten {ρ : Rho} {R : Nat → List AV} {V : Nat → List Value} : ∀ n, (∀ i, i < n → concs ρ (R i) = some (V i)) → concs ρ ((List.range n).map R).flatten = some ((List.range n).map V).flatten
  | 0, _ => rfl
  | n + 1, h => by
    rw [List.range_succ, List.map_append, List.map_append, List.flatten_append, List.flatten_append]
    refine concs_append _ _ _ _ (concs_flatten n fun i hi => h i (by omega)) ?_
    simpa using h n (by omega)
set_option maxRecDepth 100000 in
/-- The law's list, opened. -/
theorem open_ops {H : Type} {enc : TypeId × Value → H} {W : World} {base : Nat} {v : Value} {d : DataW H} {ps : List MemPlace} (hval : Value.okWide Try.prog W .any base 24 v) (h : DataW.Trod enc Try.prog W 0 (fun _ => true) true 24 v d ps) (hsz : ∀ n ∈ d.weights Try.prog 24, n ≤ reachBytes) :
    ∃ (L : List (AObj × Option Place)) (a : AV) (ops : List OpV), (∀ p ∈ L, p.1.writes = false) ∧ (∀ p ∈ L, p.1.live = true → ∃ pl, p.2 = some pl ∧ ObjRel (listRho L) p.1 pl W) ∧ conc (listRho L) a = some v ∧ ops.length ≤ 140737488355328 ∧ (∀ o ∈ ops, o.bs.length ≤ 140737488355328) ∧
      ∀ h : AHeap, h.next = L.length → (∀ b, h.get b = match L[b]? with | some p => p.1 | none => .dead) → Sl h 5 a (ops.map OpV.row) ∧ ∀ o ∈ ops, Bs h o.d o.bs := by
  have hv : v = .slice none 0 0 ∨ ∃ a len cap, v = .slice (some a) len cap ∧ a.spot = none := by
    unfold Value.okWide Cell.okWide Cell.ok at hval
    simp only [sl24] at hval
    cases v <;> simp at hval
    rename_i a len cap
    cases a with
    | none =>
      left
      cases len <;> cases cap <;> simp_all
    | some a =>
      simp at hval
      exact .inr ⟨a, len, cap, rfl, hval.2.2.2.1⟩
  rcases hv with rfl | ⟨a, len, cap, rfl, hsp⟩
  · exact ⟨[], .nilsl, [], by simp, by simp, rfl, by simp, by simp, fun h _ _ => ⟨⟨by simp, .inl ⟨rfl, rfl⟩⟩, by simp⟩⟩
  obtain ⟨fuel, hd⟩ := h
  rcases open_slice sl24 (by simpa [Value.cells] using hd) with ⟨h0, _⟩ | ⟨a', len', cap', k, n, D, Pl, h0, _, hl, _, hk, hdd, hx⟩
  · simp at h0
  simp only [List.cons.injEq, Value.slice.injEq, Option.some.injEq, and_true] at h0
  obtain ⟨rfl, rfl, rfl⟩ := h0
  simp only [if_true] at hk
  rw [hk] at hx hdd
  obtain ⟨blk, off, spot⟩ := a
  simp only at hsp
  subst hsp
  have hd1 : d = .slice ((List.range len).map D) ((List.range (cap - len)).map fun j => D (len + j)) := congrArg Prod.fst hdd
  have hrb : reachBytes = 140737488351232 := rfl
  have hlen : len ≤ 140737488355328 := by
    have := hsz (((List.range len).map D).length + ((List.range (cap - len)).map fun j => D (len + j)).length * 1) 
    have := hsz ((((List.range len).map D).length + ((List.range (cap - len)).map fun j => D (len + j)).length) * Try.prog.bytesOf 36) (by rw [hd1]; simp [DataW.weights, sl24])
    rw [bo36] at this
    simp at this
    omega
  by_cases hz : len = 0
  · subst hz
    refine ⟨[(.dead, some ⟨blk, 0, 0, none⟩)], .sl 0 off off 0 (.at_ cap), [], by simp [AObj.writes], by simp [AObj.live], ?_, by simp, by simp, fun h hn _ => ⟨⟨by simp, .inr (.inr ⟨rfl, 0, off, off, .at_ cap, by rw [hn]; simp, rfl, Nat.zero_le _⟩)⟩, by simp⟩⟩
    simp only [conc, listRho, List.getElem?_cons_zero, slVal]
    rw [if_pos ⟨Nat.zero_le _, Nat.zero_le _, fun _ => trivial⟩]
    simp only [slAt, slCap]
    cases Nat.beq cap 0 <;> simp
  have hel : ∀ i, i < len → ∃ o : OD W, o.x.Ok ∧ (∀ j, j < 5 → W.cell? ⟨blk, off + i * 5 + j, none⟩ = o.vals[j]?) ∧ o.x.bs.length ≤ 140737488355328 := fun i hi => by
    obtain ⟨cs', h1, h2⟩ := hx i (by omega)
    obtain ⟨o, h3, rfl, h5⟩ := open_op h2
    obtain ⟨_, _, h4⟩ := World.cells?_some h1
    rw [co36] at h4
    refine ⟨o, h3, fun j hj => ?_, ?_⟩
    · have := h4 j hj
      rw [addr_add, addr_add] at this
      exact this
    · rcases h5 with h5 | ⟨n, hn, h5⟩
      · rw [h5]; simp
      · have := hsz n (by
          rw [hd1]
          simp only [DataW.weights, sl24, List.mem_cons, List.mem_append]
          exact .inr (.inl (weightsAll_mem (List.mem_map.2 ⟨i, by simpa using hi, rfl⟩) n hn)))
        omega
  obtain ⟨T, hT⟩ := choose_lt (p := fun i (o : OD W) => o.x.Ok ∧ (∀ j, j < 5 → W.cell? ⟨blk, off + i * 5 + j, none⟩ = o.vals[j]?) ∧ o.x.bs.length ≤ 140737488355328) hel
  have h00 := (hT 0 (by omega)).2.1 0 (by omega)
  obtain ⟨c, ty, fz, hblk⟩ : ∃ c ty fz, W.heap[blk]? = some (.cells c ty fz) := by
    unfold World.cell? at h00
    simp only at h00
    split at h00
    · rename_i c ty fz hb; exact ⟨c, ty, fz, hb⟩
    · simp [OD.vals] at h00
  have hcell : ∀ i, i < len → ∀ j, j < 5 → c[off + i * 5 + j]? = (T i).vals[j]? := fun i hi j hj => by
    have := (hT i hi).2.1 j hj
    unfold World.cell? at this
    simpa [hblk] using this
  have hls : ∀ l ∈ (List.range len).map fun i => (T i).vals, l.length = 5 := fun l hl => by
    obtain ⟨i, hi, rfl⟩ := List.mem_map.1 hl
    rfl
  have hfl := flatten_len hls
  rw [List.length_map, List.length_range] at hfl
  have hq : ∀ q, q < len * 5 → c[off + q]? = ((List.range len).map fun i => (T i).vals).flatten[q]? := fun q hq => by
    have hi : q / 5 < len := Nat.div_lt_of_lt_mul (by rw [Nat.mul_comm]; exact hq)
    have hj : q % 5 < 5 := Nat.mod_lt _ (by omega)
    have e : q = q / 5 * 5 + q % 5 := (Nat.div_add_mod' q 5).symm
    have h1 := hcell (q / 5) hi (q % 5) hj
    rw [Nat.add_assoc, ← e] at h1
    rw [h1]
    have h2 := flatten_at hls (q / 5) (by simpa using hi)
    have h3 := congrArg (fun l : List Value => l[q % 5]?) h2
    simp only [List.getElem?_take, if_pos hj, List.getElem?_drop, ← e, List.getElem_map, List.getElem_range] at h3
    exact h3.symm
  have hend : off + len * 5 ≤ c.size := by
    have h1 := hq (len * 5 - 1) (by omega)
    rw [List.getElem?_eq_getElem (by rw [hfl]; omega)] at h1
    obtain ⟨h2, _⟩ := Array.getElem?_eq_some_iff.1 h1
    omega
  obtain ⟨L, hL⟩ : ∃ L : List (AObj × Option Place), L = (.cells ty ((List.range len).map fun i => ((T i).op i).row).flatten none, some ⟨blk, off, c.size, none⟩) :: (List.range len).map fun i => ((T i).x.o, (T i).x.pl) := ⟨_, rfl⟩
  have hLl : L.length = len + 1 := by rw [hL]; simp
  have hL0 : L[0]? = some (.cells ty ((List.range len).map fun i => ((T i).op i).row).flatten none, some ⟨blk, off, c.size, none⟩) := by rw [hL]; rfl
  have hLi : ∀ i, i < len → L[i + 1]? = some ((T i).x.o, (T i).x.pl) := fun i hi => by rw [hL]; simp [hi]
  have hrho : ∀ i, i < len → listRho L (i + 1) = (T i).x.pl := fun i hi => by simp only [listRho, hLi i hi]
  have hrow : ∀ l ∈ (List.range len).map fun i => ((T i).op i).row, l.length = 5 := fun l hl => by
    obtain ⟨i, _, rfl⟩ := List.mem_map.1 hl; rfl
  have hrl := flatten_len hrow
  rw [List.length_map, List.length_range] at hrl
  refine ⟨L, .sl 0 0 0 len (.at_ cap), (List.range len).map fun i => (T i).op i, fun p hp => ?_, fun p hp hlv => ?_, ?_, by simpa using hlen, fun o ho => ?_, fun h hn hg => ?_⟩
  · rw [hL] at hp
    rcases List.mem_cons.1 hp with rfl | hp
    · rfl
    · obtain ⟨i, hi, rfl⟩ := List.mem_map.1 hp
      exact (hT i (by simpa using hi)).1.wr
  · rw [hL] at hp
    rcases List.mem_cons.1 hp with rfl | hp
    · refine ⟨_, rfl, c, fz, ((List.range len).map fun i => (T i).vals).flatten, hblk, rfl, by rw [hrl]; exact hend, ?_, ?_, fun i x hx => ?_, fun f hf => by cases hf⟩
      · rw [List.all_eq_true]
        intro x hx
        obtain ⟨l, hl, hx⟩ := List.mem_flatten.1 hx
        obtain ⟨i, hi, rfl⟩ := List.mem_map.1 hl
        have := (hT i (by simpa using hi)).1.one (i + 1)
        simp [OD.op] at hx
        rcases hx with rfl | rfl | rfl | rfl | rfl <;> first | rfl | exact this
      · refine concs_flatten len fun i hi => ?_
        have := (hT i hi).1.conc (listRho L) (i + 1) (hrho i hi)
        simp only [OD.op, OD.vals, concs, conc, this]
      · have hi := (List.getElem?_eq_some_iff.1 hx).1
        rw [hfl] at hi
        rw [hq i hi]; exact hx
    · obtain ⟨i, hi, rfl⟩ := List.mem_map.1 hp
      obtain ⟨p, h1, h2⟩ := (hT i (by simpa using hi)).1.live hlv
      exact ⟨p, h1, h2 _⟩
  · have : listRho L 0 = some ⟨blk, off, c.size, none⟩ := by simp only [listRho, hL0]
    simp only [conc, this, slVal]
    rw [if_pos ⟨show len ≤ slCap ⟨blk, off, c.size, none⟩ 0 (.at_ cap) from hl, Nat.zero_le _, fun _ => trivial⟩]
    simp only [slAt, slCap]
    cases Nat.beq cap 0 <;> simp
  · obtain ⟨i, hi, rfl⟩ := List.mem_map.1 ho
    exact (hT i (by simpa using hi)).2.2
  · refine ⟨⟨fun l hl => ?_, .inr (.inl ⟨0, 0, 0, .at_ cap, ty, ((List.range len).map fun i => ((T i).op i).row).flatten, none, by simp, by omega, by rw [hg, hL0], by rw [hrl]; simp, ?_, by simp; exact hl⟩)⟩, fun o ho => ?_⟩
    · obtain ⟨o, ho, rfl⟩ := List.mem_map.1 hl; rfl
    · rw [List.drop_zero, List.take_of_length_le (by rw [hrl]; simp), List.map_map]; rfl
    · obtain ⟨i, hi, rfl⟩ := List.mem_map.1 ho
      have hi : i < len := by simpa using hi
      exact (hT i hi).1.sl h (i + 1) (by omega) (by rw [hg, hLi i hi])
set_option maxRecDepth 100000 in
theorem law_world {H : Type} {enc : TypeId × Value → H} {W : World} {base : Nat} {v0 v1 : Value} {d1 : DataW H} {q1 : List MemPlace} (k0 : Value.okWide Try.prog W .any base 23 v0) (k1 : Value.okWide Try.prog W .any base 24 v1)
    (e1 : DataW.Trod enc Try.prog W 0 (fun _ => true) true 24 v1 d1 q1) (hsz : ∀ n ∈ d1.weights Try.prog 24, n ≤ reachBytes) :
    Calls Try.prog 3 #[v0, v1] W fun e W' => e = .returned (.bool true) ∧ Go.RowKit.Below W.heap.size W W' := by
  obtain ⟨l, hl, rfl⟩ := open_ints (show intsB Try.prog 23 4 = true by kernel_rfl) k0
  obtain ⟨L, a, ops, hLw, hLo, hca, hol, hob, hsl⟩ := open_ops k1 e1 hsz
  obtain ⟨h, hn, hg, hsim, hw⟩ := list_sim hLw hLo
  obtain ⟨hs, hbs⟩ := hsl h hn hg
  obtain ⟨w, sz, q, t, rfl⟩ : ∃ w sz q t, l = [w, sz, q, t] := by
    match l, hl with
    | [w, sz, q, t], _ => exact ⟨w, sz, q, t, rfl⟩
  obtain ⟨n, r, h', hrun, rfl⟩ := @Ca_out Try.prog O35b.toOrc _ _ _ _ (@law_sp O35b send_spec awake_spec h a ops w sz q t hs (fun o ho => ⟨hbs o ho, hob o ho⟩) hol)
  have hargs : concs (listRho L) [.agg [.int .i64 w, .int .i64 sz, .int .i64 q, .int .i64 t], a] = some [.agg (([w, sz, q, t] : List Int).map (Value.int .i64)).toArray, v1] := by
    refine concs_cons_mk ?_ (concs_cons_mk hca rfl)
    have := conc_ints (listRho L) [w, sz, q, t]
    simp only [List.map_cons, List.map_nil] at this
    simp only [conc, this, List.map_cons, List.map_nil]
  have := @acall_sound Try.prog O35b.toOrc pok oc_ok n 3 _ h _ h' (listRho L) W _ hrun hsim hargs
  refine Calls.mono this ?_
  rintro e W' ⟨c, ρ', rfl, hc, hst⟩
  simp only [conc, Option.some.injEq] at hc
  subst hc
  exact ⟨rfl, hst.keep.os, hst.keep.tape, hst.keep.output, hst.keep.size, fun k hk => (hst.keep.old k hk fun ⟨b, pl, hb, _⟩ => by rw [hw b] at hb; cases hb).1⟩
open Go.Proofs.Ytcjgagkkanokjab
theorem ub4 : Try.prog.underlying 4 = some .bool := by kernel_rfl
theorem own : ownKnob Try.prog.godebug = none := by kernel_rfl
theorem laidOut : laidOutB Try.prog = true := by kernel_rfl
set_option maxRecDepth 100000 in
theorem lifted (os : Os) (started : os.Started) (H : Type) (enc : TypeId × Value → H) :
    ReturnsInHanded {} Try.checked os 3 .any (Rows.linksCallsSpec.pre6 enc Try.prog Try.f3 Rows.linksCallsRow.domain false) (Rows.linksCallsSpec.post enc Try.prog Try.f3 false true false false) := by
  refine returnsInHanded_of_change_sized (C := Try.checked) own started (by kernel_rfl) Try.func3
    (ChangeSpec.witness6 (enc := enc) (C := Try.checked) false ⟨#[], #[.agg (Array.replicate 4 (.int .i64 0)), .slice none 0 0], []⟩ 8 (by kernel_rfl) (by kernel_rfl) (by kernel_rfl) (by kernel_rfl)) ?_
  intro W base args ds gs before hval0 hW hcnd hsz0 _
  have hsz : (DataW.weightsEach Try.prog (Try.f3.params.toList ++ Rows.linksCallsSpec.plain.varTypes Try.prog) (ds ++ gs)).all (· ≤ reachBytes) = true := hsz0
  clear hsz0
  have hval : ∀ (j : Nat) t v, Try.f3.params[j]? = some t → args[j]? = some v → Value.okWide Try.prog W .any base t v := hval0
  have hW' := hW
  obtain ⟨p, q, hA0, hV, rfl, hfz, hnd⟩ := hW
  have hA : DataW.TrodAll enc Try.prog W 0 (fun _ => true) true Try.f3.params.toList args.toList ds p := hA0
  rw [Try.params3] at hA hval hsz
  obtain ⟨v0, v1, d0, d1, p0, p1, rfl, rfl, rfl, h0, h1⟩ := trodAll_two hA
  obtain ⟨rfl, rfl⟩ := trodVars_none hV
  have lt0 : ∀ x ∈ p0, x.block < W.heap.size := fun x hx => by simpa using hW'.lt x (by simp [hx])
  have lt1 : ∀ x ∈ p1, x.block < W.heap.size := fun x hx => by simpa using hW'.lt x (by simp [hx])
  have hw1 : ∀ n ∈ d1.weights Try.prog 24, n ≤ reachBytes := fun n hn => by
    have := List.all_eq_true.1 hsz n (DataW.weights_mem_each (j := 1) (t := 24) (d := d1) rfl rfl n hn)
    simpa using this
  refine (law_world (hval 0 23 v0 rfl rfl) (hval 1 24 v1 rfl rfl) h1 hw1).mono fun e W' ⟨he, hb⟩ => ?_
  subst he
  refine ⟨_, rfl, [d0, d1], [], _, [], p0 ++ p1, [], hW', ?_, ?_, ?_, Below.frame hb _, fun h => by cases h⟩
  · exact trodAll_mk1 (shut_bool ub4 true)
  · exact trodAll_mk2 (Below.trod laidOut (by kernel_rfl) (of_decide_eq_true (by kernel_rfl)) h0 hb lt0) (Below.trod laidOut (by kernel_rfl) (of_decide_eq_true (by kernel_rfl)) h1 hb lt1)
  · rfl
end Go.Eng.L35
namespace Go.Proofs.Ytcjgagkkanokjab
theorem linksCalls_holds : Rows.LinksCallsSaid :=
  OpenClaim.holds_of_wide 3 Try.f3 rfl rfl rfl rfl rfl rfl rfl ⟨rfl, rfl, rfl, rfl, rfl⟩ rfl rfl rfl rfl rfl (by kernel_rfl) Try.func3 (by kernel_rfl)
    (of_decide_eq_true (by kernel_rfl)) (by unfold Func.isWrapper; first | (rw [if_pos (by decide +kernel)]; kernel_rfl) | (rw [if_neg (by decide +kernel)]; exact ⟨rfl, rfl⟩))
    (fun os started H enc _ => Go.Eng.L35.lifted os started H enc)
end Go.Proofs.Ytcjgagkkanokjab
