/- The engine, part 7: what a pure operation yields. -/
import Derived.Test.YtcjgagkkanokjacGreatDoorE5
namespace Go.Eng

def evo (ev : Operand → Option AV) : Option Operand → Option (Option AV)
  | none => some none
  | some x => match ev x with | some v => some (some v) | none => none
theorem evo_sound {ρ : Rho} {ev : Operand → Option AV} {ec : Operand → Value} (he : EvRel ρ ev ec) {x : Option Operand} {v : Option AV} (h : evo ev x = some v) : OptRel ρ v (x.map ec) := by
  cases x with
  | none => simp only [evo, Option.some.injEq] at h; subst h; trivial
  | some x =>
    simp only [evo] at h
    cases hx : ev x with
    | none => simp [hx] at h
    | some u => simp [hx] at h; subst h; exact he x u hx
theorem evps_sound {ρ : Rho} {ev : Operand → Option AV} {ec : Operand → Value} (he : EvRel ρ ev ec) : ∀ (l : List (Nat × Operand)) (a : List (Nat × AV)), evps ev l = some a → PartsRel ρ a (l.map fun p => (p.1, ec p.2))
  | [], a, h => by simp only [evps, Option.some.injEq] at h; subst h; exact ⟨rfl, fun i p hp => by simp at hp⟩
  | (i, x) :: r, a, h => by
    simp only [evps] at h
    cases hx : ev x with
    | none => simp [hx] at h
    | some v =>
      cases hr : evps ev r with
      | none => simp [hx, hr] at h
      | some b =>
        simp [hx, hr] at h
        subst h
        have ih := evps_sound he r b hr
        refine ⟨by simpa using ih.1, fun j p hp => ?_⟩
        cases j with
        | zero => simp at hp; subst hp; exact ⟨(i, ec x), rfl, rfl, he x v hx⟩
        | succ j => exact ih.2 j p (by simpa using hp)

def isC : Operand → Bool
  | .const _ => true
  | _ => false
/-- The guard on '==' between two nil interface values. -/
def okEq (op : BinOp) (x y : Operand) (a b : AV) : Bool :=
  match op, a, b with
  | .eql, .nilIface, .nilIface | .neq, .nilIface, .nilIface => isC x || isC y
  | .eql, .agg _, _ | .neq, .agg _, _ => false
  | _, _, _ => true
theorem okEq_sound {P : Program} {ρ : Rho} {op : BinOp} {t : TypeId} {x y : Operand} {a b : AV} {ca cb : Value} (h : okEq op x y a b = true) (ha : conc ρ a = some ca) (hb : conc ρ b = some cb) (w : World) :
    (eqGuard op t x y ca cb).run P w = .ok () w := by
  have niA : ∀ {v : AV} {c : Value}, conc ρ v = some c → c = .nilIface → v = .nilIface := by
    intro v c hv hc; subst hc
    cases v with
    | sl b o z len cap => obtain ⟨_, _, _, hh⟩ := conc_sl hv; cases hh
    | _ => simp only [conc] at hv <;> (try split at hv) <;> first | rfl | (cases hv; done) | (simp at hv; done)
  have agA : ∀ {v : AV} {c : Value} {cs : Array Value}, conc ρ v = some c → c = .agg cs → ∃ l, v = .agg l := by
    intro v c cs hv hc; subst hc
    cases v with
    | sl b o z len cap => obtain ⟨_, _, _, hh⟩ := conc_sl hv; cases hh
    | _ => simp only [conc] at hv <;> (try split at hv) <;> first | exact ⟨_, rfl⟩ | (cases hv; done) | (simp at hv; done)
  cases op
  case eql =>
    unfold eqGuard
    simp only [Bool.not_true, Bool.false_eq_true, if_false]
    split
    · obtain rfl := niA ha rfl
      obtain rfl := niA hb rfl
      cases x <;> cases y <;> first | rfl | (simp [okEq, isC] at h; done)
    · obtain ⟨l, rfl⟩ := agA ha rfl
      simp [okEq] at h
    · rfl
  case neq =>
    unfold eqGuard
    simp only [Bool.not_true, Bool.false_eq_true, if_false]
    split
    · obtain rfl := niA ha rfl
      obtain rfl := niA hb rfl
      cases x <;> cases y <;> first | rfl | (simp [okEq, isC] at h; done)
    · obtain ⟨l, rfl⟩ := agA ha rfl
      simp [okEq] at h
    · rfl
  all_goals rfl

def ppure (P : Program) (ev : Operand → Option AV) (op : Op) : Option AV :=
  match op with
  | .move x | .assign x => ev x
  | .pick c a b => match ev c with
    | some (.bool t) => if t then ev a else ev b
    | _ => none
  | .build t ps => match evps ev ps.toList with
    | some l => pbuild P t l
    | none => none
  | .nilCheck x => match ev x with
    | some (.ptr b o) => some (.ptr b o)
    | some (.func f l) => some (.func f l)
    | _ => none
  | .binOp op t x y _ => match ev x, ev y with
    | some a, some b => if okEq op x y a b then pbin P op t a b else pagg P op t a b
    | _, _ => none
  | .unOp op _ x => match ev x with
    | some a => puna op a
    | none => none
  | .convert s d x => match ev x with
    | some a => pconv P s d a
    | none => none
  | .sliceToArrayPointer t x => match ev x with
    | some a => psl2arr P t a
    | none => none
  | .makeInterface t x => match ev x with
    | some a => pmkiface P t a
    | none => none
  | .makeFunc (.func f) first cap => match first.toList, evs ev cap.toList with
    | [], some l => some (.func f l)
    | _, _ => none
  | .slice t x lo hi mx => match ev x, evo ev lo, evo ev hi, evo ev mx with
    | some a, some l, some h, some m => pslice P t a l h m
    | _, _, _, _ => none
  | .fieldAddr s x f => match ev x with
    | some a => pfieldAddr P s a f
    | none => none
  | .field s x f => match ev x with
    | some a => pfield P s a f
    | none => none
  | .indexAddr t x i => match ev x, ev i with
    | some a, some b => pindexAddr P t a b
    | _, _ => none
  | .index t x i => match ev x, ev i with
    | some a, some b => pindex P t a b
    | _, _ => none
  | .extract x i => match ev x with
    | some a => pextract a i
    | none => none
  | .typeAssert x _ t ok => match ev x with
    | some a => atassert P a t ok
    | none => none
  | .call c => match c.callee with
    | .builtin b => match evs ev c.args.toList with
      | some l => pbuiltin P b c.argTypes.toList l
      | none => none
    | _ => none
  | _ => none

theorem ppure_sound {P : Program} {ρ : Rho} {ev : Operand → Option AV} {ec : Operand → Value} {o : Oper} {v : AV} (h : ppure P ev o.op = some v) (he : EvRel ρ ev ec) :
    ∃ c, conc ρ v = some c ∧ ∀ w, (execOp ec o).run P w = .ok (.value c) w := by
  obtain ⟨dst, op, ty, pos, after, guard⟩ := o
  simp only at h
  cases op <;> simp only [ppure] at h <;> try (cases h; done)
  case move x => exact ⟨_, he x v h, fun w => by simp [execOp]⟩
  case assign x => exact ⟨_, he x v h, fun w => by simp [execOp]⟩
  case pick c a b =>
    cases hc : ev c with
    | none => simp [hc] at h
    | some u =>
      cases u <;> simp [hc] at h
      rename_i t
      have ht := conc_bool (he c _ hc)
      cases t
      · simp at h; exact ⟨_, he b v h, fun w => by simp [execOp, ht, asBool]⟩
      · simp at h; exact ⟨_, he a v h, fun w => by simp [execOp, ht, asBool]⟩
  case build t ps =>
    cases hp : evps ev ps.toList with
    | none => simp [hp] at h
    | some l =>
      simp only [hp] at h
      obtain ⟨c, hc, hr⟩ := pbuild_sound h (evps_sound he _ _ hp)
      refine ⟨c, hc, fun w => ?_⟩
      have e : (ps.map fun (x : Nat × Operand) => (x.1, ec x.2)) = (ps.toList.map fun p => (p.1, ec p.2)).toArray := by apply Array.ext'; simp
      simp only [execOp, Sem.run_bind]
      rw [e, hr w]; rfl
  case nilCheck x =>
    cases hx : ev x with
    | none => simp [hx] at h
    | some u =>
      cases u <;> simp [hx] at h
      · subst h
        have hxc := he x _ hx
        obtain ⟨pl, hb, hcx⟩ := conc_ptr hxc
        exact ⟨_, hxc, fun w => by simp [execOp, hcx]⟩
      · subst h
        have hxc := he x _ hx
        obtain ⟨l, hl, hcx⟩ := conc_func hxc
        exact ⟨_, hxc, fun w => by simp [execOp, hcx]⟩
  case binOp op t x y yt =>
    cases hx : ev x with
    | none => simp [hx] at h
    | some a =>
      cases hy : ev y with
      | none => simp [hx, hy] at h
      | some b =>
        simp only [hx, hy] at h
        split at h
        · rename_i hok
          obtain ⟨c, hc, hr⟩ := pbin_sound h (he x a hx) (he y b hy)
          exact ⟨c, hc, fun w => by simp [execOp, okEq_sound hok (he x a hx) (he y b hy), hr]⟩
        · obtain ⟨c, hc, hr⟩ := pagg_sound (x := x) (y := y) h (he x a hx) (he y b hy)
          exact ⟨c, hc, fun w => by simp [execOp, (hr w).1, (hr w).2]⟩
  case unOp op t x =>
    cases hx : ev x with
    | none => simp [hx] at h
    | some a =>
      simp only [hx] at h
      obtain ⟨c, hc, hr⟩ := puna_sound (P := P) h (he x a hx)
      exact ⟨c, hc, fun w => by simp [execOp, hr]⟩
  case convert s d x =>
    cases hx : ev x with
    | none => simp [hx] at h
    | some a =>
      simp only [hx] at h
      obtain ⟨c, hc, hr⟩ := pconv_sound h (he x a hx)
      exact ⟨c, hc, fun w => by simp [execOp, hr]⟩
  case sliceToArrayPointer t x =>
    cases hx : ev x with
    | none => simp [hx] at h
    | some a =>
      simp only [hx] at h
      obtain ⟨c, hc, hr⟩ := psl2arr_sound h (he x a hx)
      exact ⟨c, hc, fun w => by simp [execOp, hr]⟩
  case makeInterface t x =>
    cases hx : ev x with
    | none => simp [hx] at h
    | some a =>
      simp only [hx] at h
      obtain ⟨c, hc, hr⟩ := pmkiface_sound h (he x a hx)
      exact ⟨c, hc, fun w => by simp [execOp, hr]⟩
  case makeFunc fn first cap =>
    cases fn <;> simp only at h <;> try (cases h; done)
    rename_i f
    cases hf : first.toList with
    | cons a r => simp [hf] at h
    | nil =>
      cases hl : evs ev cap.toList with
      | none => simp [hf, hl] at h
      | some l =>
        simp [hf, hl] at h
        subst h
        have hcap := evs_sound he _ _ hl
        have e1 : first = #[] := by apply Array.ext'; simpa using hf
        refine ⟨.func (.func f) #[] (cap.toList.map ec).toArray, by simp only [conc, hcap], fun w => ?_⟩
        have e2 : (cap.map ec) = (cap.toList.map ec).toArray := by apply Array.ext'; simp
        simp only [execOp, Instr.makeFunc, e1, e2, Sem.run_bind, Sem.run_pure, Result.andThen_ok]
        simp
  case slice t x lo hi mx =>
    cases hx : ev x with
    | none => simp [hx] at h
    | some a =>
      cases hl : evo ev lo with
      | none => simp [hx, hl] at h
      | some l =>
        cases hh : evo ev hi with
        | none => simp [hx, hl, hh] at h
        | some u =>
          cases hm : evo ev mx with
          | none => simp [hx, hl, hh, hm] at h
          | some m =>
            simp only [hx, hl, hh, hm] at h
            obtain ⟨c, hc, hr⟩ := pslice_sound h (he x a hx) (evo_sound he hl) (evo_sound he hh) (evo_sound he hm)
            exact ⟨c, hc, fun w => by simp only [execOp, Sem.run_bind, hr w, Result.andThen_ok, Sem.run_pure]⟩
  case fieldAddr s x f =>
    cases hx : ev x with
    | none => simp [hx] at h
    | some a =>
      simp only [hx] at h
      obtain ⟨c, hc, hr⟩ := pfieldAddr_sound h (he x a hx)
      exact ⟨c, hc, fun w => by simp [execOp, hr]⟩
  case field s x f =>
    cases hx : ev x with
    | none => simp [hx] at h
    | some a =>
      simp only [hx] at h
      obtain ⟨c, hc, hr⟩ := pfield_sound h (he x a hx)
      exact ⟨c, hc, fun w => by simp [execOp, hr]⟩
  case indexAddr t x i =>
    cases hx : ev x with
    | none => simp [hx] at h
    | some a =>
      cases hi : ev i with
      | none => simp [hx, hi] at h
      | some b =>
        simp only [hx, hi] at h
        obtain ⟨c, hc, hr⟩ := pindexAddr_sound h (he x a hx) (he i b hi)
        exact ⟨c, hc, fun w => by simp [execOp, hr]⟩
  case index t x i =>
    cases hx : ev x with
    | none => simp [hx] at h
    | some a =>
      cases hi : ev i with
      | none => simp [hx, hi] at h
      | some b =>
        simp only [hx, hi] at h
        obtain ⟨c, hc, hr⟩ := pindex_sound h (he x a hx) (he i b hi)
        exact ⟨c, hc, fun w => by simp [execOp, hr]⟩
  case extract x i =>
    cases hx : ev x with
    | none => simp [hx] at h
    | some a =>
      simp only [hx] at h
      obtain ⟨c, hc, hr⟩ := pextract_sound (P := P) h (he x a hx)
      exact ⟨c, hc, fun w => by simp [execOp, hr]⟩
  case typeAssert x xt t ok =>
    cases hx : ev x with
    | none => simp [hx] at h
    | some a =>
      simp only [hx] at h
      obtain ⟨c, hc, hr⟩ := atassert_sound (P := P) (xt := xt) h (he x a hx)
      exact ⟨c, hc, fun w => by simp [execOp, hr]⟩
  case call c =>
    obtain ⟨callee, args, argTypes⟩ := c
    cases callee <;> simp only at h <;> try (cases h; done)
    rename_i b
    cases hl : evs ev args.toList with
    | none => simp [hl] at h
    | some l =>
      simp only [hl] at h
      obtain ⟨c, hc, hr⟩ := pbuiltin_sound (ty := ty) (consts := args.map fun | .const _ => true | _ => false) h (evs_sound he _ _ hl)
      refine ⟨c, hc, fun w => ?_⟩
      have e : args.map ec = (args.toList.map ec).toArray := by apply Array.ext'; simp
      simp only [execOp, resolve, Sem.run_bind, Sem.run_pure, Result.andThen_ok, invoke, e]
      exact hr w

end Go.Eng
/- The engine, part 8: loads, stores, new blocks. -/
namespace Go.Eng

/-! ### loads -/
def aload (P : Program) (h : AHeap) (t : TypeId) (p : AV) : Option AV :=
  match p with
  | .ptr b o =>
    match h.get b with
    | .cells _ cs _ =>
      match isAggT P t with
      | some true => match tsz P t with
        | some n => if o + n ≤ cs.length then some (.agg ((cs.drop o).take n)) else none
        | none => none
      | some false => cs[o]?
      | none => none
    | _ => none
  | _ => none

theorem cell_of {w : World} {k : Nat} {c : Array Value} {ty : TypeId} {fz : Nat × Nat} (h : w.heap[k]? = some (.cells c ty fz)) (i : Nat) : w.cell? ⟨k, i, none⟩ = c[i]? := by
  simp [World.cell?, h]

/-- The cells of an abstract block, read in the world. -/
theorem Sim.cells {ρ : Rho} {h : AHeap} {w : World} (hs : Sim ρ h w) {b : Nat} {pl : Place} (hb : ρ b = some pl) {ty : TypeId} {cs : List AV} {wr : Option Nat} (hg : h.get b = .cells ty cs wr) :
    ∃ c fz xs, w.heap[pl.blk]? = some (.cells c ty fz) ∧ pl.endc = c.size ∧ pl.off + cs.length ≤ c.size ∧ cs.all AV.one = true ∧ concs ρ cs = some xs ∧ (∀ i x, xs[i]? = some x → c[pl.off + i]? = some x) ∧ (∀ f, wr = some f → fz.2 ≤ pl.off + f ∧ (ty = bty → pl.off = 0)) := by
  obtain ⟨pl', h1, h2⟩ := hs.obj b (by rw [hg]; rfl)
  rw [hb] at h1; cases h1
  rw [hg] at h2
  exact h2

theorem aload_sound {P : Program} {ρ : Rho} {h : AHeap} {w : World} {t : TypeId} {p v : AV} {cp : Value} (ha : aload P h t p = some v) (hp : conc ρ p = some cp) (hs : Sim ρ h w) :
    ∃ c, conc ρ v = some c ∧ (Instr.loadAt t cp).run P w = .ok c w := by
  cases p with
  | ptr b o =>
    simp only [aload] at ha
    obtain ⟨pl, hb, rfl⟩ := conc_ptr hp
    cases hg : h.get b with
    | cells ty cs wr =>
      simp only [hg] at ha
      obtain ⟨c, fz, xs, hc, he, hl, h1, hx, hi, hf⟩ := hs.cells hb hg
      have hlen := concs_length _ _ hx
      cases hA : isAggT P t with
      | none => simp [hA] at ha
      | some bb =>
        cases bb with
        | true =>
          simp only [hA] at ha
          cases hn : tsz P t with
          | none => simp [hn] at ha
          | some n =>
            simp only [hn] at ha
            split at ha
            · rename_i hle
              cases ha
              have hx' := concs_take n _ _ (concs_drop o _ _ hx)
              refine ⟨_, conc_agg_mk hx', ?_⟩
              have hlen' : ((xs.drop o).take n).length = n := by simp; omega
              have hld := run_loadCells_list (P := P) w ⟨pl.blk, pl.off + o, none⟩ ((xs.drop o).take n) (fun j u hu => by
                rw [addr_add, cell_of hc]
                rw [List.getElem?_take] at hu
                split at hu
                · rw [List.getElem?_drop] at hu
                  rw [Nat.add_assoc]; exact hi _ _ hu
                · cases hu)
              rw [hlen'] at hld
              simp only [Instr.loadAt, Instr.sureAddr, Sem.run_bind, Sem.run_pure, Result.andThen_ok, loadVar, run_isAggT hA, run_sizeOf_tsz hn, if_true, hld]
            · cases ha
        | false =>
          simp only [hA] at ha
          obtain ⟨x, hxo, hvx⟩ := concs_get cs xs o v hx ha
          refine ⟨x, hvx, ?_⟩
          have hcell : w.cell? ⟨pl.blk, pl.off + o, none⟩ = some x := by rw [cell_of hc]; exact hi o x hxo
          simp only [Instr.loadAt, Instr.sureAddr, Sem.run_bind, Sem.run_pure, Result.andThen_ok, loadVar, run_isAggT hA, Bool.false_eq_true, if_false, run_load, hcell]
    | dead => simp [hg] at ha
    | map es cl wr => simp [hg] at ha
    | siter s pos => simp [hg] at ha
  | _ => simp [aload] at ha

def pload (P : Program) (h : AHeap) (ev : Operand → Option AV) (op : Op) : Option AV :=
  match op with
  | .load t a => match ev a with
    | some p => aload P h t p
    | none => none
  | _ => none
theorem pload_sound {P : Program} {ρ : Rho} {h : AHeap} {w : World} {ev : Operand → Option AV} {ec : Operand → Value} {o : Oper} {v : AV} (hv : pload P h ev o.op = some v) (he : EvRel ρ ev ec) (hs : Sim ρ h w) :
    ∃ c, conc ρ v = some c ∧ (execOp ec o).run P w = .ok (.value c) w := by
  obtain ⟨dst, op, ty, pos, after, guard⟩ := o
  simp only at hv
  cases op <;> simp only [pload] at hv <;> try (cases hv; done)
  case load t a =>
    cases ha : ev a with
    | none => simp [ha] at hv
    | some p =>
      simp only [ha] at hv
      obtain ⟨c, hc, hr⟩ := aload_sound hv (he a p ha) hs
      exact ⟨c, hc, by simp [execOp, hr]⟩

/-! ### writes -/
theorem Sim.store {P : Program} {ρ : Rho} {h : AHeap} {w : World} (hs : Sim ρ h w) {b o f : Nat} {pl : Place} (hb : ρ b = some pl) {ty : TypeId} {cs vs : List AV} {ys : List Value} (hg : h.get b = .cells ty cs (some f)) (hf : f ≤ o)
    (hl : o + vs.length ≤ cs.length) (hv : concs ρ vs = some ys) (h1 : vs.all AV.one = true) :
    ∃ w', (storeCells ⟨pl.blk, pl.off + o, none⟩ ys).run P w = .ok () w' ∧ Step ρ h w ρ (h.set b (.cells ty (splice cs o vs) (some f))) w' := by
  obtain ⟨c, fz, xs, hc, he, hlen, hone, hx, hi, hfz⟩ := hs.cells hb hg
  have hvl := concs_length _ _ hv
  have hxl := concs_length _ _ hx
  have hrun := run_storeCells_atF P pl.blk (pl.off + o) ty fz ys 0 c w hc (by have := (hfz f rfl).1; omega) (by omega) (concs_one vs ys hv h1)
  simp only [Nat.add_zero] at hrun
  refine ⟨_, hrun, ?_⟩
  have hheap := setRow_heap w pl.blk c (c.toList.take (pl.off + o) ++ ys ++ c.toList.drop (pl.off + o + ys.length)).toArray ty fz hc
  refine Step.write hs hb (by rw [hg]; rfl) _ (by simp [World.setRow]) rfl rfl rfl (fun k hk => setRow_other w pl.blk k _ hk) ?_
  have hspl := concs_splice hx hv o
  have hsl : (splice cs o vs).length = cs.length := by simp [splice]; omega
  refine ⟨_, fz, _, hheap, ?_, ?_, ?_, hspl, ?_, fun g hgf => hfz g hgf⟩
  · rw [he]; simp; omega
  · rw [hsl]; simp; omega
  · simp only [splice, List.all_append, Bool.and_eq_true]
    refine ⟨⟨?_, h1⟩, ?_⟩
    · exact List.all_eq_true.2 fun x hx => List.all_eq_true.1 hone x (List.mem_of_mem_take hx)
    · exact List.all_eq_true.2 fun x hx => List.all_eq_true.1 hone x (List.mem_of_mem_drop hx)
  · intro i x hix
    simp only [List.getElem?_toArray]
    rw [List.getElem?_append] at hix ⊢
    simp only [List.length_append, List.length_take, Array.length_toList] at hix ⊢
    have e1 : min o xs.length = o := by omega
    have e2 : min (pl.off + o) c.size = pl.off + o := by omega
    rw [e1] at hix
    rw [e2]
    by_cases hA : i < o + ys.length
    · rw [if_pos hA] at hix
      rw [if_pos (by omega)]
      rw [List.getElem?_append] at hix ⊢
      simp only [List.length_take, Array.length_toList, e1, e2] at hix ⊢
      by_cases hB : i < o
      · rw [if_pos hB] at hix
        rw [if_pos (by omega)]
        rw [List.getElem?_take, if_pos hB] at hix
        rw [List.getElem?_take, if_pos (by omega), Array.getElem?_toList]
        exact hi i x hix
      · rw [if_neg hB] at hix
        rw [if_neg (by omega), show pl.off + i - (pl.off + o) = i - o by omega]
        exact hix
    · rw [if_neg hA] at hix
      rw [if_neg (by omega)]
      rw [List.getElem?_drop] at hix ⊢
      rw [Array.getElem?_toList, show pl.off + o + ys.length + (pl.off + i - (pl.off + o + ys.length)) = pl.off + (o + ys.length + (i - (o + ys.length))) by omega]
      exact hi _ x hix

def astore (P : Program) (h : AHeap) (t : TypeId) (p v : AV) : Option AHeap :=
  match p with
  | .ptr b o =>
    match h.get b with
    | .cells ty cs (some f) =>
      match tsz P t with
      | some n => if v.cells.length = n ∧ f ≤ o ∧ o + v.cells.length ≤ cs.length ∧ v.cells.all AV.one = true then some (h.set b (.cells ty (splice cs o v.cells) (some f))) else none
      | none => none
    | _ => none
  | _ => none
theorem astore_sound {P : Program} {ρ : Rho} {h h' : AHeap} {w : World} {t : TypeId} {p v : AV} {cp cv : Value} (ha : astore P h t p v = some h') (hp : conc ρ p = some cp) (hv : conc ρ v = some cv) (hs : Sim ρ h w) :
    ∃ w', (Instr.storeAt t cp cv).run P w = .ok () w' ∧ Step ρ h w ρ h' w' := by
  cases p with
  | ptr b o =>
    simp only [astore] at ha
    obtain ⟨pl, hb, rfl⟩ := conc_ptr hp
    split at ha
    · rename_i ty cs f hg
      split at ha
      · rename_i n hn
        split at ha
        · rename_i hc
          obtain ⟨c1, c2, c3, c4⟩ := hc
          cases ha
          have hcells := conc_cells hv
          obtain ⟨w', hr, hst⟩ := hs.store (P := P) hb hg c2 c3 hcells c4
          refine ⟨w', ?_, hst⟩
          have hsz : cv.cells.size = n := by have := concs_length _ _ hcells; simp at this; omega
          simp only [Instr.storeAt, Instr.sureAddr, Sem.run_bind, Sem.run_pure, Result.andThen_ok, storeVar, run_sizeOf_tsz hn, ne_eq, hsz, not_true_eq_false, if_false]
          exact hr
        · cases ha
      · cases ha
    · cases ha
  | _ => simp [astore] at ha

/-! ### new blocks -/
/-- n times a list. -/
def reps (n : Nat) (l : List AV) : List AV := (List.replicate n l).flatten
theorem concs_reps {ρ : Rho} {l : List AV} {x : List Value} (h : concs ρ l = some x) : ∀ n, concs ρ (reps n l) = some (List.replicate n x).flatten
  | 0 => rfl
  | n + 1 => by
    unfold reps
    simp only [List.replicate_succ, List.flatten_cons]
    exact concs_append _ _ _ _ h (concs_reps h n)
theorem reps_length (n : Nat) (l : List AV) : (reps n l).length = n * l.length := by simp [reps]
theorem reps_one {l : List AV} (h : l.all AV.one = true) (n : Nat) : (reps n l).all AV.one = true := by
  simp only [reps, List.all_flatten, List.all_replicate]
  cases n <;> simp [h]
theorem madeCells_flat (z : Array Value) : ∀ n, madeCells z (n * z.size) = (List.replicate n z.toList).flatten.toArray := by
  intro n
  apply Array.ext'
  simp only [madeCells, Array.toList_map, Array.toList_range]
  induction n with
  | zero => simp
  | succ n ih =>
    rw [Nat.succ_mul, List.range_add, List.map_append, ih, List.replicate_succ', List.flatten_append]
    congr 1
    simp only [List.flatten_cons, List.flatten_nil, List.append_nil, List.map_map]
    apply List.ext_getElem?
    intro i
    simp only [List.getElem?_map]
    by_cases hi : i < z.size
    · simp [hi, Nat.mul_comm n, Nat.mod_eq_of_lt hi]
    · simp [hi]

/-- What a new block is, and the value that leads to it. -/
inductive Mk where
  | ptr
  | sl (len cap : Nat)
def Mk.abs (b : Nat) : Mk → AV
  | .ptr => .ptr b 0
  | .sl len cap => .sl b 0 0 len (.at_ cap)
def Mk.con (k : Nat) : Mk → Value
  | .ptr => .pointer (some ⟨k, 0, none⟩)
  | .sl len cap => .slice (some ⟨k, 0, none⟩) len cap

def palloc (P : Program) (ev : Operand → Option AV) (op : Op) : Option (TypeId × List AV × Mk) :=
  match op with
  | .alloc e => match tzero P e with
    | some z => if z.cells.all AV.one then some (e, z.cells, .ptr) else none
    | none => none
  | .box e x => match ev x with
    | some v => if v.cells.all AV.one then some (e, v.cells, .ptr) else none
    | none => none
  | .buildSlice t len ps =>
    match P.underlying t, evps ev ps.toList with
    | some (.slice e), some l =>
      match tsz P e, tzero P e with
      | some n, some z =>
        if len * n ≤ 16777216 ∧ z.cells.length = n then
          match afill (fun i => some (i * n, n)) (reps len z.cells) l with
          | some cs => if cs.all AV.one then some (e, cs, .sl len len) else none
          | none => none
        else none
      | _, _ => none
    | _, _ => none
  | .makeSlice t l c =>
    match P.underlying t, ev l, ev c with
    | some (.slice e), some vl, some vc =>
      match nat? vl, nat? vc, tsz P e, tbytes P e, tzero P e with
      | some l, some c, some n, some by_, some z =>
        if l ≤ c ∧ by_ * c ≤ 281474976710656 ∧ c ≤ 9223372036854775807 ∧ z.cells.length = n ∧ z.cells.all AV.one = true then some (e, reps c z.cells, .sl l c) else none
      | _, _, _, _, _ => none
    | _, _, _ => none
  | _ => none

theorem Mk.conc {ρ : Rho} {m : Mk} {b k endc : Nat} (hb : ρ b = some ⟨k, 0, endc, none⟩) (hm : ∀ l c, m = .sl l c → l ≤ c) : Eng.conc ρ (m.abs b) = some (m.con k) := by
  cases m with
  | ptr => simp [Mk.abs, Mk.con, Eng.conc, hb]
  | sl l c =>
    refine (conc_sl_mk hb (show l ≤ slCap ⟨k, 0, endc, none⟩ 0 (.at_ c) from hm l c rfl) (fun _ => rfl)).trans ?_
    simp [Mk.con, slCap, slAt]

theorem palloc_sound {P : Program} {ρ : Rho} {ev : Operand → Option AV} {ec : Operand → Value} {o : Oper} {e : TypeId} {cs : List AV} {m : Mk} (h : palloc P ev o.op = some (e, cs, m)) (he : EvRel ρ ev ec) :
    ∃ xs, concs ρ cs = some xs ∧ cs.all AV.one = true ∧ (∀ l c, m = .sl l c → l ≤ c) ∧
      ∀ w, (execOp ec o).run P w = .ok (.value (m.con w.heap.size)) { w with heap := w.heap.push (.cells xs.toArray e) } := by
  obtain ⟨dst, op, ty, pos, after, guard⟩ := o
  simp only at h
  cases op <;> simp only [palloc] at h <;> try (cases h; done)
  case alloc e' =>
    cases hz : tzero P e' with
    | none => simp [hz] at h
    | some z =>
      simp only [hz] at h
      split at h
      · rename_i h1
        cases h
        obtain ⟨c, hc, _, hr⟩ := tzero_sound (ρ := ρ) hz
        refine ⟨_, conc_cells hc, h1, (fun l c hh => by cases hh), fun w => ?_⟩
        simp [execOp, Instr.alloc, hr, newVar, newRow, Mk.con]
      · cases h
  case box e' x =>
    cases hx : ev x with
    | none => simp [hx] at h
    | some v =>
      simp only [hx] at h
      split at h
      · rename_i h1
        cases h
        have hc := he x v hx
        refine ⟨_, conc_cells hc, h1, (fun l c hh => by cases hh), fun w => ?_⟩
        simp [execOp, Instr.box, newVar, newRow, Mk.con]
      · cases h
  case buildSlice t len ps =>
    split at h
    · rename_i e' l hu hl
      split at h
      · rename_i n z hn hz
        split at h
        · rename_i hc
          obtain ⟨hc1, hc2⟩ := hc
          split at h
          · rename_i cs' hf
            split at h
            · rename_i h1
              cases h
              obtain ⟨cz, hcz, _, hrz⟩ := tzero_sound (ρ := ρ) hz
              have hcells := conc_cells hcz
              have hzl : cz.cells.size = n := by have := concs_length _ _ hcells; simp at this; omega
              have hreps := concs_reps hcells len
              obtain ⟨ys, hy, hfill⟩ := afill_sound _ l _ _ _ _ hf hreps (evps_sound he _ _ hl)
              refine ⟨ys, hy, h1, (fun l c hh => by cases hh; exact Nat.le_refl _), fun w => ?_⟩
              have e1 : (ps.map fun (x : Nat × Operand) => (x.1, ec x.2)).toList = (ps.toList.map fun p => (p.1, ec p.2)) := by simp
              have e2 : (Array.range (len * n)).map (fun i => cz.cells[i % cz.cells.size]!) = (List.replicate len cz.cells.toList).flatten.toArray := by
                have := madeCells_flat cz.cells len
                rw [hzl] at this
                rw [hzl]
                simpa only [madeCells, hzl] using this
              have hge : ¬ (len * n > 2 ^ 24) := by omega
              have hfill' : Instr.fill (fun i => some (i * n, n)) (List.replicate len cz.cells.toList).flatten.toArray (ps.map fun (x : Nat × Operand) => (x.1, ec x.2)).toList = some ys.toArray := by rw [e1]; exact hfill
              by_cases h0 : len * n = 0
              · have e3 : (List.replicate len cz.cells.toList).flatten.toArray = #[] := by
                  apply Array.ext'
                  have : ((List.replicate len cz.cells.toList).flatten).length = 0 := by simp [hzl, h0]
                  simpa using List.length_eq_zero_iff.1 this
                rw [e3] at hfill'
                have e4 : ∀ g : Nat → Value, (Array.range 0).map g = #[] := fun g => by simp
                simp only [execOp, Instr.buildSlice, Sem.run_bind, run_underlying hu, Result.andThen_ok, run_sizeOf_tsz hn, Sem.run_pure, h0, if_true, e4, hfill', newRow, run_newObj, Mk.con, if_neg (show ¬ (0 > 2 ^ 24) by omega)]
              · simp only [execOp, Instr.buildSlice, Sem.run_bind, run_underlying hu, Result.andThen_ok, run_sizeOf_tsz hn, if_neg hge, Sem.run_pure, if_neg h0, hrz, e2, hfill', newRow, run_newObj, Mk.con]
            · cases h
          · cases h
        · cases h
      · cases h
    · cases h
  case makeSlice t l c =>
    split at h
    · rename_i e' vl vc hu hl hc
      split at h
      · rename_i l' c' n by_ z h1 h2 hn hb hz
        split at h
        · rename_i hh
          obtain ⟨g1, g2, g3, g4, g5⟩ := hh
          cases h
          obtain ⟨kl, rfl⟩ := nat?_some h1
          obtain ⟨kc, rfl⟩ := nat?_some h2
          obtain ⟨cz, hcz, ⟨i, hi, hiz⟩, hrz⟩ := tzero_sound (ρ := ρ) hz
          have hcells := conc_cells hcz
          have hzl : cz.cells.size = n := by have := concs_length _ _ hcells; simp at this; omega
          have hin : i.size = n := by simpa [tsz, hi] using hn
          have hib : i.bytes = by_ := by simpa [tbytes, hi] using hb
          refine ⟨_, concs_reps hcells c', reps_one g5 c', (fun l c hh => by cases hh; exact g1), fun w => ?_⟩
          have el := conc_int (he l _ hl)
          have ecc := conc_int (he c _ hc)
          have hrun := run_make (P := P) w t e i cz hu hi hiz kl kc (l' : Int) (c' : Int) (by omega) (by omega) (by rw [hib, ← Int.natCast_mul]; exact Int.le_trans (Int.ofNat_le.2 g2) (by decide)) (by omega)
          simp only [execOp, Sem.run_bind, el, ecc, hrun, Result.andThen_ok, Sem.run_pure, Mk.con, Int.toNat_natCast, World.alloc]
          have := madeCells_flat cz.cells c'
          rw [hzl] at this
          rw [hin, this]
        · cases h
      · cases h
    · cases h

/-- A new block: the engine's step. -/
theorem Step.newblk {P : Program} {ρ : Rho} {h : AHeap} {w : World} {ev : Operand → Option AV} {ec : Operand → Value} {o : Oper} {e : TypeId} {cs : List AV} {m : Mk} (ha : palloc P ev o.op = some (e, cs, m)) (he : EvRel ρ ev ec) (hs : Sim ρ h w) :
    ∃ c w' ρ', (execOp ec o).run P w = .ok (.value c) w' ∧ conc ρ' (m.abs h.next) = some c ∧ Step ρ h w ρ' (h.new (.cells e cs (some 0))) w' := by
  obtain ⟨xs, hx, h1, hm, hr⟩ := palloc_sound (P := P) ha he
  have hn := hs.fresh
  refine ⟨_, _, _, hr w, Mk.conc (upd_same _ _ _) hm, Step.alloc hs _ (.cells xs.toArray e) xs.length ?_⟩
  have hl := concs_length _ _ hx
  exact ⟨xs.toArray, (0, 0), xs, heap_push_new _, by simp, by simp; omega, h1, concs_mono (Ext.upd _ hn) cs xs hx, fun i x hi => by simpa using hi, fun f _ => ⟨by simp, fun _ => rfl⟩⟩

end Go.Eng
