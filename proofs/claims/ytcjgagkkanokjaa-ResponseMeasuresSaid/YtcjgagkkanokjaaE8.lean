/- The engine, part 8: loads, stores, new blocks. -/
import Derived.Test.YtcjgagkkanokjaaE7
namespace Go.Eng

/-! ### loads -/
def aload (P : Program) (h : AHeap) (t : TypeId) (p : AV) : Option AV :=
  match p with
  | .ptr b o =>
    match h.get b with
    | .cells _ cs _ =>
      match isAggT P t with
      | some true => match tsz P t with
        | some n => if o + n ≤ cs.length then some (.agg ((cs.drop o).take n)) else none
        | none => none
      | some false => cs[o]?
      | none => none
    | _ => none
  | _ => none

theorem cell_of {w : World} {k : Nat} {c : Array Value} {ty : TypeId} {fz : Nat × Nat} (h : w.heap[k]? = some (.cells c ty fz)) (i : Nat) : w.cell? ⟨k, i, none⟩ = c[i]? := by
  simp [World.cell?, h]

/-- The cells of an abstract block, read in the world. -/
theorem Sim.cells {ρ : Rho} {h : AHeap} {w : World} (hs : Sim ρ h w) {b : Nat} {pl : Place} (hb : ρ b = some pl) {ty : TypeId} {cs : List AV} {wr : Option Nat} (hg : h.get b = .cells ty cs wr) :
    ∃ c fz xs, w.heap[pl.blk]? = some (.cells c ty fz) ∧ pl.endc = c.size ∧ pl.off + cs.length ≤ c.size ∧ cs.all AV.one = true ∧ concs ρ cs = some xs ∧ (∀ i x, xs[i]? = some x → c[pl.off + i]? = some x) ∧ (∀ f, wr = some f → fz.2 ≤ pl.off + f) := by
  obtain ⟨pl', h1, h2⟩ := hs.obj b (by rw [hg]; rfl)
  rw [hb] at h1; cases h1
  rw [hg] at h2
  exact h2

theorem aload_sound {P : Program} {ρ : Rho} {h : AHeap} {w : World} {t : TypeId} {p v : AV} {cp : Value} (ha : aload P h t p = some v) (hp : conc ρ p = some cp) (hs : Sim ρ h w) :
    ∃ c, conc ρ v = some c ∧ (Instr.loadAt t cp).run P w = .ok c w := by
  cases p with
  | ptr b o =>
    simp only [aload] at ha
    obtain ⟨pl, hb, rfl⟩ := conc_ptr hp
    cases hg : h.get b with
    | cells ty cs wr =>
      simp only [hg] at ha
      obtain ⟨c, fz, xs, hc, he, hl, h1, hx, hi, hf⟩ := hs.cells hb hg
      have hlen := concs_length _ _ hx
      cases hA : isAggT P t with
      | none => simp [hA] at ha
      | some bb =>
        cases bb with
        | true =>
          simp only [hA] at ha
          cases hn : tsz P t with
          | none => simp [hn] at ha
          | some n =>
            simp only [hn] at ha
            split at ha
            · rename_i hle
              cases ha
              have hx' := concs_take n _ _ (concs_drop o _ _ hx)
              refine ⟨_, conc_agg_mk hx', ?_⟩
              have hlen' : ((xs.drop o).take n).length = n := by simp; omega
              have hld := run_loadCells_list (P := P) w ⟨pl.blk, pl.off + o, none⟩ ((xs.drop o).take n) (fun j u hu => by
                rw [addr_add, cell_of hc]
                rw [List.getElem?_take] at hu
                split at hu
                · rw [List.getElem?_drop] at hu
                  rw [Nat.add_assoc]; exact hi _ _ hu
                · cases hu)
              rw [hlen'] at hld
              simp only [Instr.loadAt, Instr.sureAddr, Sem.run_bind, Sem.run_pure, Result.andThen_ok, loadVar, run_isAggT hA, run_sizeOf_tsz hn, if_true, hld]
            · cases ha
        | false =>
          simp only [hA] at ha
          obtain ⟨x, hxo, hvx⟩ := concs_get cs xs o v hx ha
          refine ⟨x, hvx, ?_⟩
          have hcell : w.cell? ⟨pl.blk, pl.off + o, none⟩ = some x := by rw [cell_of hc]; exact hi o x hxo
          simp only [Instr.loadAt, Instr.sureAddr, Sem.run_bind, Sem.run_pure, Result.andThen_ok, loadVar, run_isAggT hA, Bool.false_eq_true, if_false, run_load, hcell]
    | dead => simp [hg] at ha
    | map es cl wr => simp [hg] at ha
  | _ => simp [aload] at ha

def pload (P : Program) (h : AHeap) (ev : Operand → Option AV) (op : Op) : Option AV :=
  match op with
  | .load t a => match ev a with
    | some p => aload P h t p
    | none => none
  | _ => none
theorem pload_sound {P : Program} {ρ : Rho} {h : AHeap} {w : World} {ev : Operand → Option AV} {ec : Operand → Value} {o : Oper} {v : AV} (hv : pload P h ev o.op = some v) (he : EvRel ρ ev ec) (hs : Sim ρ h w) :
    ∃ c, conc ρ v = some c ∧ (execOp ec o).run P w = .ok (.value c) w := by
  obtain ⟨dst, op, ty, pos, after, guard⟩ := o
  simp only at hv
  cases op <;> simp only [pload] at hv <;> try (cases hv; done)
  case load t a =>
    cases ha : ev a with
    | none => simp [ha] at hv
    | some p =>
      simp only [ha] at hv
      obtain ⟨c, hc, hr⟩ := aload_sound hv (he a p ha) hs
      exact ⟨c, hc, by simp [execOp, hr]⟩

/-! ### writes -/
theorem Sim.store {P : Program} {ρ : Rho} {h : AHeap} {w : World} (hs : Sim ρ h w) {b o f : Nat} {pl : Place} (hb : ρ b = some pl) {ty : TypeId} {cs vs : List AV} {ys : List Value} (hg : h.get b = .cells ty cs (some f)) (hf : f ≤ o)
    (hl : o + vs.length ≤ cs.length) (hv : concs ρ vs = some ys) (h1 : vs.all AV.one = true) :
    ∃ w', (storeCells ⟨pl.blk, pl.off + o, none⟩ ys).run P w = .ok () w' ∧ Step ρ h w ρ (h.set b (.cells ty (splice cs o vs) (some f))) w' := by
  obtain ⟨c, fz, xs, hc, he, hlen, hone, hx, hi, hfz⟩ := hs.cells hb hg
  have hvl := concs_length _ _ hv
  have hxl := concs_length _ _ hx
  have hrun := run_storeCells_atF P pl.blk (pl.off + o) ty fz ys 0 c w hc (by have := hfz f rfl; omega) (by omega) (concs_one vs ys hv h1)
  simp only [Nat.add_zero] at hrun
  refine ⟨_, hrun, ?_⟩
  have hheap := setRow_heap w pl.blk c (c.toList.take (pl.off + o) ++ ys ++ c.toList.drop (pl.off + o + ys.length)).toArray ty fz hc
  refine Step.write hs hb (by rw [hg]; rfl) _ (by simp [World.setRow]) rfl rfl rfl (fun k hk => setRow_other w pl.blk k _ hk) ?_
  have hspl := concs_splice hx hv o
  have hsl : (splice cs o vs).length = cs.length := by simp [splice]; omega
  refine ⟨_, fz, _, hheap, ?_, ?_, ?_, hspl, ?_, fun g hgf => hfz g hgf⟩
  · rw [he]; simp; omega
  · rw [hsl]; simp; omega
  · simp only [splice, List.all_append, Bool.and_eq_true]
    refine ⟨⟨?_, h1⟩, ?_⟩
    · exact List.all_eq_true.2 fun x hx => List.all_eq_true.1 hone x (List.mem_of_mem_take hx)
    · exact List.all_eq_true.2 fun x hx => List.all_eq_true.1 hone x (List.mem_of_mem_drop hx)
  · intro i x hix
    simp only [List.getElem?_toArray]
    rw [List.getElem?_append] at hix ⊢
    simp only [List.length_append, List.length_take, Array.length_toList] at hix ⊢
    have e1 : min o xs.length = o := by omega
    have e2 : min (pl.off + o) c.size = pl.off + o := by omega
    rw [e1] at hix
    rw [e2]
    by_cases hA : i < o + ys.length
    · rw [if_pos hA] at hix
      rw [if_pos (by omega)]
      rw [List.getElem?_append] at hix ⊢
      simp only [List.length_take, Array.length_toList, e1, e2] at hix ⊢
      by_cases hB : i < o
      · rw [if_pos hB] at hix
        rw [if_pos (by omega)]
        rw [List.getElem?_take, if_pos hB] at hix
        rw [List.getElem?_take, if_pos (by omega), Array.getElem?_toList]
        exact hi i x hix
      · rw [if_neg hB] at hix
        rw [if_neg (by omega), show pl.off + i - (pl.off + o) = i - o by omega]
        exact hix
    · rw [if_neg hA] at hix
      rw [if_neg (by omega)]
      rw [List.getElem?_drop] at hix ⊢
      rw [Array.getElem?_toList, show pl.off + o + ys.length + (pl.off + i - (pl.off + o + ys.length)) = pl.off + (o + ys.length + (i - (o + ys.length))) by omega]
      exact hi _ x hix

def astore (P : Program) (h : AHeap) (t : TypeId) (p v : AV) : Option AHeap :=
  match p with
  | .ptr b o =>
    match h.get b with
    | .cells ty cs (some f) =>
      match tsz P t with
      | some n => if v.cells.length = n ∧ f ≤ o ∧ o + v.cells.length ≤ cs.length ∧ v.cells.all AV.one = true then some (h.set b (.cells ty (splice cs o v.cells) (some f))) else none
      | none => none
    | _ => none
  | _ => none
theorem astore_sound {P : Program} {ρ : Rho} {h h' : AHeap} {w : World} {t : TypeId} {p v : AV} {cp cv : Value} (ha : astore P h t p v = some h') (hp : conc ρ p = some cp) (hv : conc ρ v = some cv) (hs : Sim ρ h w) :
    ∃ w', (Instr.storeAt t cp cv).run P w = .ok () w' ∧ Step ρ h w ρ h' w' := by
  cases p with
  | ptr b o =>
    simp only [astore] at ha
    obtain ⟨pl, hb, rfl⟩ := conc_ptr hp
    split at ha
    · rename_i ty cs f hg
      split at ha
      · rename_i n hn
        split at ha
        · rename_i hc
          obtain ⟨c1, c2, c3, c4⟩ := hc
          cases ha
          have hcells := conc_cells hv
          obtain ⟨w', hr, hst⟩ := hs.store (P := P) hb hg c2 c3 hcells c4
          refine ⟨w', ?_, hst⟩
          have hsz : cv.cells.size = n := by have := concs_length _ _ hcells; simp at this; omega
          simp only [Instr.storeAt, Instr.sureAddr, Sem.run_bind, Sem.run_pure, Result.andThen_ok, storeVar, run_sizeOf_tsz hn, ne_eq, hsz, not_true_eq_false, if_false]
          exact hr
        · cases ha
      · cases ha
    · cases ha
  | _ => simp [astore] at ha

/-! ### new blocks -/
/-- n times a list. -/
def reps (n : Nat) (l : List AV) : List AV := (List.replicate n l).flatten
theorem concs_reps {ρ : Rho} {l : List AV} {x : List Value} (h : concs ρ l = some x) : ∀ n, concs ρ (reps n l) = some (List.replicate n x).flatten
  | 0 => rfl
  | n + 1 => by
    unfold reps
    simp only [List.replicate_succ, List.flatten_cons]
    exact concs_append _ _ _ _ h (concs_reps h n)
theorem reps_length (n : Nat) (l : List AV) : (reps n l).length = n * l.length := by simp [reps]
theorem reps_one {l : List AV} (h : l.all AV.one = true) (n : Nat) : (reps n l).all AV.one = true := by
  simp only [reps, List.all_flatten, List.all_replicate]
  cases n <;> simp [h]
theorem madeCells_flat (z : Array Value) : ∀ n, madeCells z (n * z.size) = (List.replicate n z.toList).flatten.toArray := by
  intro n
  apply Array.ext'
  simp only [madeCells, Array.toList_map, Array.toList_range]
  induction n with
  | zero => simp
  | succ n ih =>
    rw [Nat.succ_mul, List.range_add, List.map_append, ih, List.replicate_succ', List.flatten_append]
    congr 1
    simp only [List.flatten_cons, List.flatten_nil, List.append_nil, List.map_map]
    apply List.ext_getElem?
    intro i
    simp only [List.getElem?_map]
    by_cases hi : i < z.size
    · simp [hi, Nat.mul_comm n, Nat.mod_eq_of_lt hi]
    · simp [hi]

/-- What a new block is, and the value that leads to it. -/
inductive Mk where
  | ptr
  | sl (len cap : Nat)
def Mk.abs (b : Nat) : Mk → AV
  | .ptr => .ptr b 0
  | .sl len cap => .sl b 0 0 len (.at_ cap)
def Mk.con (k : Nat) : Mk → Value
  | .ptr => .pointer (some ⟨k, 0, none⟩)
  | .sl len cap => .slice (some ⟨k, 0, none⟩) len cap

def palloc (P : Program) (ev : Operand → Option AV) (op : Op) : Option (TypeId × List AV × Mk) :=
  match op with
  | .alloc e => match tzero P e with
    | some z => if z.cells.all AV.one then some (e, z.cells, .ptr) else none
    | none => none
  | .box e x => match ev x with
    | some v => if v.cells.all AV.one then some (e, v.cells, .ptr) else none
    | none => none
  | .buildSlice t len ps =>
    match P.underlying t, evps ev ps.toList with
    | some (.slice e), some l =>
      match tsz P e, tzero P e with
      | some n, some z =>
        if len * n ≤ 16777216 ∧ z.cells.length = n then
          match afill (fun i => some (i * n, n)) (reps len z.cells) l with
          | some cs => if cs.all AV.one then some (e, cs, .sl len len) else none
          | none => none
        else none
      | _, _ => none
    | _, _ => none
  | .makeSlice t l c =>
    match P.underlying t, ev l, ev c with
    | some (.slice e), some vl, some vc =>
      match nat? vl, nat? vc, tsz P e, tbytes P e, tzero P e with
      | some l, some c, some n, some by_, some z =>
        if l ≤ c ∧ by_ * c ≤ 281474976710656 ∧ c ≤ 9223372036854775807 ∧ z.cells.length = n ∧ z.cells.all AV.one = true then some (e, reps c z.cells, .sl l c) else none
      | _, _, _, _, _ => none
    | _, _, _ => none
  | _ => none

theorem Mk.conc {ρ : Rho} {m : Mk} {b k endc : Nat} (hb : ρ b = some ⟨k, 0, endc⟩) (hm : ∀ l c, m = .sl l c → l ≤ c) : Eng.conc ρ (m.abs b) = some (m.con k) := by
  cases m with
  | ptr => simp [Mk.abs, Mk.con, Eng.conc, hb]
  | sl l c =>
    refine (conc_sl_mk hb (show l ≤ slCap ⟨k, 0, endc⟩ 0 (.at_ c) from hm l c rfl)).trans ?_
    simp [Mk.con, slCap, slAt]

theorem palloc_sound {P : Program} {ρ : Rho} {ev : Operand → Option AV} {ec : Operand → Value} {o : Oper} {e : TypeId} {cs : List AV} {m : Mk} (h : palloc P ev o.op = some (e, cs, m)) (he : EvRel ρ ev ec) :
    ∃ xs, concs ρ cs = some xs ∧ cs.all AV.one = true ∧ (∀ l c, m = .sl l c → l ≤ c) ∧
      ∀ w, (execOp ec o).run P w = .ok (.value (m.con w.heap.size)) { w with heap := w.heap.push (.cells xs.toArray e) } := by
  obtain ⟨dst, op, ty, pos, after, guard⟩ := o
  simp only at h
  cases op <;> simp only [palloc] at h <;> try (cases h; done)
  case alloc e' =>
    cases hz : tzero P e' with
    | none => simp [hz] at h
    | some z =>
      simp only [hz] at h
      split at h
      · rename_i h1
        cases h
        obtain ⟨c, hc, _, hr⟩ := tzero_sound (ρ := ρ) hz
        refine ⟨_, conc_cells hc, h1, (fun l c hh => by cases hh), fun w => ?_⟩
        simp [execOp, Instr.alloc, hr, newVar, newRow, Mk.con]
      · cases h
  case box e' x =>
    cases hx : ev x with
    | none => simp [hx] at h
    | some v =>
      simp only [hx] at h
      split at h
      · rename_i h1
        cases h
        have hc := he x v hx
        refine ⟨_, conc_cells hc, h1, (fun l c hh => by cases hh), fun w => ?_⟩
        simp [execOp, Instr.box, newVar, newRow, Mk.con]
      · cases h
  case buildSlice t len ps =>
    split at h
    · rename_i e' l hu hl
      split at h
      · rename_i n z hn hz
        split at h
        · rename_i hc
          obtain ⟨hc1, hc2⟩ := hc
          split at h
          · rename_i cs' hf
            split at h
            · rename_i h1
              cases h
              obtain ⟨cz, hcz, _, hrz⟩ := tzero_sound (ρ := ρ) hz
              have hcells := conc_cells hcz
              have hzl : cz.cells.size = n := by have := concs_length _ _ hcells; simp at this; omega
              have hreps := concs_reps hcells len
              obtain ⟨ys, hy, hfill⟩ := afill_sound _ l _ _ _ _ hf hreps (evps_sound he _ _ hl)
              refine ⟨ys, hy, h1, (fun l c hh => by cases hh; exact Nat.le_refl _), fun w => ?_⟩
              have e1 : (ps.map fun (x : Nat × Operand) => (x.1, ec x.2)).toList = (ps.toList.map fun p => (p.1, ec p.2)) := by simp
              have e2 : (Array.range (len * n)).map (fun i => cz.cells[i % cz.cells.size]!) = (List.replicate len cz.cells.toList).flatten.toArray := by
                have := madeCells_flat cz.cells len
                rw [hzl] at this
                rw [hzl]
                simpa only [madeCells, hzl] using this
              have hge : ¬ (len * n > 2 ^ 24) := by omega
              have hfill' : Instr.fill (fun i => some (i * n, n)) (List.replicate len cz.cells.toList).flatten.toArray (ps.map fun (x : Nat × Operand) => (x.1, ec x.2)).toList = some ys.toArray := by rw [e1]; exact hfill
              by_cases h0 : len * n = 0
              · have e3 : (List.replicate len cz.cells.toList).flatten.toArray = #[] := by
                  apply Array.ext'
                  have : ((List.replicate len cz.cells.toList).flatten).length = 0 := by simp [hzl, h0]
                  simpa using List.length_eq_zero_iff.1 this
                rw [e3] at hfill'
                have e4 : ∀ g : Nat → Value, (Array.range 0).map g = #[] := fun g => by simp
                simp only [execOp, Instr.buildSlice, Sem.run_bind, run_underlying hu, Result.andThen_ok, run_sizeOf_tsz hn, Sem.run_pure, h0, if_true, e4, hfill', newRow, run_newObj, Mk.con, if_neg (show ¬ (0 > 2 ^ 24) by omega)]
              · simp only [execOp, Instr.buildSlice, Sem.run_bind, run_underlying hu, Result.andThen_ok, run_sizeOf_tsz hn, if_neg hge, Sem.run_pure, if_neg h0, hrz, e2, hfill', newRow, run_newObj, Mk.con]
            · cases h
          · cases h
        · cases h
      · cases h
    · cases h
  case makeSlice t l c =>
    split at h
    · rename_i e' vl vc hu hl hc
      split at h
      · rename_i l' c' n by_ z h1 h2 hn hb hz
        split at h
        · rename_i hh
          obtain ⟨g1, g2, g3, g4, g5⟩ := hh
          cases h
          obtain ⟨kl, rfl⟩ := nat?_some h1
          obtain ⟨kc, rfl⟩ := nat?_some h2
          obtain ⟨cz, hcz, ⟨i, hi, hiz⟩, hrz⟩ := tzero_sound (ρ := ρ) hz
          have hcells := conc_cells hcz
          have hzl : cz.cells.size = n := by have := concs_length _ _ hcells; simp at this; omega
          have hin : i.size = n := by simpa [tsz, hi] using hn
          have hib : i.bytes = by_ := by simpa [tbytes, hi] using hb
          refine ⟨_, concs_reps hcells c', reps_one g5 c', (fun l c hh => by cases hh; exact g1), fun w => ?_⟩
          have el := conc_int (he l _ hl)
          have ecc := conc_int (he c _ hc)
          have hrun := run_make (P := P) w t e i cz hu hi hiz kl kc (l' : Int) (c' : Int) (by omega) (by omega) (by rw [hib, ← Int.natCast_mul]; exact Int.le_trans (Int.ofNat_le.2 g2) (by decide)) (by omega)
          simp only [execOp, Sem.run_bind, el, ecc, hrun, Result.andThen_ok, Sem.run_pure, Mk.con, Int.toNat_natCast, World.alloc]
          have := madeCells_flat cz.cells c'
          rw [hzl] at this
          rw [hin, this]
        · cases h
      · cases h
    · cases h

/-- A new block: the engine's step. -/
theorem Step.newblk {P : Program} {ρ : Rho} {h : AHeap} {w : World} {ev : Operand → Option AV} {ec : Operand → Value} {o : Oper} {e : TypeId} {cs : List AV} {m : Mk} (ha : palloc P ev o.op = some (e, cs, m)) (he : EvRel ρ ev ec) (hs : Sim ρ h w) :
    ∃ c w' ρ', (execOp ec o).run P w = .ok (.value c) w' ∧ conc ρ' (m.abs h.next) = some c ∧ Step ρ h w ρ' (h.new (.cells e cs (some 0))) w' := by
  obtain ⟨xs, hx, h1, hm, hr⟩ := palloc_sound (P := P) ha he
  have hn := hs.fresh
  refine ⟨_, _, _, hr w, Mk.conc (upd_same _ _ _) hm, Step.alloc hs _ (.cells xs.toArray e) xs.length ?_⟩
  have hl := concs_length _ _ hx
  exact ⟨xs.toArray, (0, 0), xs, heap_push_new _, by simp, by simp; omega, h1, concs_mono (Ext.upd _ hn) cs xs hx, fun i x hi => by simpa using hi, fun f _ => by simp⟩

end Go.Eng
