/- The engine, part 7: what a pure operation yields. -/
import Derived.Test.YtcjgagkkanokjaaE6
namespace Go.Eng

def evo (ev : Operand → Option AV) : Option Operand → Option (Option AV)
  | none => some none
  | some x => match ev x with | some v => some (some v) | none => none
theorem evo_sound {ρ : Rho} {ev : Operand → Option AV} {ec : Operand → Value} (he : EvRel ρ ev ec) {x : Option Operand} {v : Option AV} (h : evo ev x = some v) : OptRel ρ v (x.map ec) := by
  cases x with
  | none => simp only [evo, Option.some.injEq] at h; subst h; trivial
  | some x =>
    simp only [evo] at h
    cases hx : ev x with
    | none => simp [hx] at h
    | some u => simp [hx] at h; subst h; exact he x u hx
theorem evps_sound {ρ : Rho} {ev : Operand → Option AV} {ec : Operand → Value} (he : EvRel ρ ev ec) : ∀ (l : List (Nat × Operand)) (a : List (Nat × AV)), evps ev l = some a → PartsRel ρ a (l.map fun p => (p.1, ec p.2))
  | [], a, h => by simp only [evps, Option.some.injEq] at h; subst h; exact ⟨rfl, fun i p hp => by simp at hp⟩
  | (i, x) :: r, a, h => by
    simp only [evps] at h
    cases hx : ev x with
    | none => simp [hx] at h
    | some v =>
      cases hr : evps ev r with
      | none => simp [hx, hr] at h
      | some b =>
        simp [hx, hr] at h
        subst h
        have ih := evps_sound he r b hr
        refine ⟨by simpa using ih.1, fun j p hp => ?_⟩
        cases j with
        | zero => simp at hp; subst hp; exact ⟨(i, ec x), rfl, rfl, he x v hx⟩
        | succ j => exact ih.2 j p (by simpa using hp)

def isC : Operand → Bool
  | .const _ => true
  | _ => false
/-- The guard on '==' between two nil interface values. -/
def okEq (op : BinOp) (x y : Operand) (a b : AV) : Bool :=
  match op, a, b with
  | .eql, .nilIface, .nilIface | .neq, .nilIface, .nilIface => isC x || isC y
  | .eql, .agg _, _ | .neq, .agg _, _ => false
  | _, _, _ => true
theorem okEq_sound {P : Program} {ρ : Rho} {op : BinOp} {t : TypeId} {x y : Operand} {a b : AV} {ca cb : Value} (h : okEq op x y a b = true) (ha : conc ρ a = some ca) (hb : conc ρ b = some cb) (w : World) :
    (eqGuard op t x y ca cb).run P w = .ok () w := by
  have niA : ∀ {v : AV} {c : Value}, conc ρ v = some c → c = .nilIface → v = .nilIface := by
    intro v c hv hc; subst hc
    cases v with
    | sl b o z len cap => obtain ⟨_, _, _, hh⟩ := conc_sl hv; cases hh
    | _ => simp only [conc] at hv <;> (try split at hv) <;> first | rfl | (cases hv; done) | (simp at hv; done)
  have agA : ∀ {v : AV} {c : Value} {cs : Array Value}, conc ρ v = some c → c = .agg cs → ∃ l, v = .agg l := by
    intro v c cs hv hc; subst hc
    cases v with
    | sl b o z len cap => obtain ⟨_, _, _, hh⟩ := conc_sl hv; cases hh
    | _ => simp only [conc] at hv <;> (try split at hv) <;> first | exact ⟨_, rfl⟩ | (cases hv; done) | (simp at hv; done)
  cases op
  case eql =>
    unfold eqGuard
    simp only [Bool.not_true, Bool.false_eq_true, if_false]
    split
    · obtain rfl := niA ha rfl
      obtain rfl := niA hb rfl
      cases x <;> cases y <;> first | rfl | (simp [okEq, isC] at h; done)
    · obtain ⟨l, rfl⟩ := agA ha rfl
      simp [okEq] at h
    · rfl
  case neq =>
    unfold eqGuard
    simp only [Bool.not_true, Bool.false_eq_true, if_false]
    split
    · obtain rfl := niA ha rfl
      obtain rfl := niA hb rfl
      cases x <;> cases y <;> first | rfl | (simp [okEq, isC] at h; done)
    · obtain ⟨l, rfl⟩ := agA ha rfl
      simp [okEq] at h
    · rfl
  all_goals rfl

def ppure (P : Program) (ev : Operand → Option AV) (op : Op) : Option AV :=
  match op with
  | .move x | .assign x => ev x
  | .pick c a b => match ev c with
    | some (.bool t) => if t then ev a else ev b
    | _ => none
  | .build t ps => match evps ev ps.toList with
    | some l => pbuild P t l
    | none => none
  | .nilCheck x => match ev x with
    | some (.ptr b o) => some (.ptr b o)
    | some (.func f l) => some (.func f l)
    | _ => none
  | .binOp op t x y _ => match ev x, ev y with
    | some a, some b => if okEq op x y a b then pbin P op t a b else none
    | _, _ => none
  | .unOp op _ x => match ev x with
    | some a => puna op a
    | none => none
  | .convert s d x => match ev x with
    | some a => pconv P s d a
    | none => none
  | .sliceToArrayPointer t x => match ev x with
    | some a => psl2arr P t a
    | none => none
  | .makeInterface t x => match ev x with
    | some a => pmkiface P t a
    | none => none
  | .makeFunc (.func f) first cap => match first.toList, evs ev cap.toList with
    | [], some l => some (.func f l)
    | _, _ => none
  | .slice t x lo hi mx => match ev x, evo ev lo, evo ev hi, evo ev mx with
    | some a, some l, some h, some m => pslice P t a l h m
    | _, _, _, _ => none
  | .fieldAddr s x f => match ev x with
    | some a => pfieldAddr P s a f
    | none => none
  | .field s x f => match ev x with
    | some a => pfield P s a f
    | none => none
  | .indexAddr t x i => match ev x, ev i with
    | some a, some b => pindexAddr P t a b
    | _, _ => none
  | .index t x i => match ev x, ev i with
    | some a, some b => pindex P t a b
    | _, _ => none
  | .extract x i => match ev x with
    | some a => pextract a i
    | none => none
  | .call c => match c.callee with
    | .builtin b => match evs ev c.args.toList with
      | some l => pbuiltin P b c.argTypes.toList l
      | none => none
    | _ => none
  | _ => none

theorem ppure_sound {P : Program} {ρ : Rho} {ev : Operand → Option AV} {ec : Operand → Value} {o : Oper} {v : AV} (h : ppure P ev o.op = some v) (he : EvRel ρ ev ec) :
    ∃ c, conc ρ v = some c ∧ ∀ w, (execOp ec o).run P w = .ok (.value c) w := by
  obtain ⟨dst, op, ty, pos, after, guard⟩ := o
  simp only at h
  cases op <;> simp only [ppure] at h <;> try (cases h; done)
  case move x => exact ⟨_, he x v h, fun w => by simp [execOp]⟩
  case assign x => exact ⟨_, he x v h, fun w => by simp [execOp]⟩
  case pick c a b =>
    cases hc : ev c with
    | none => simp [hc] at h
    | some u =>
      cases u <;> simp [hc] at h
      rename_i t
      have ht := conc_bool (he c _ hc)
      cases t
      · simp at h; exact ⟨_, he b v h, fun w => by simp [execOp, ht, asBool]⟩
      · simp at h; exact ⟨_, he a v h, fun w => by simp [execOp, ht, asBool]⟩
  case build t ps =>
    cases hp : evps ev ps.toList with
    | none => simp [hp] at h
    | some l =>
      simp only [hp] at h
      obtain ⟨c, hc, hr⟩ := pbuild_sound h (evps_sound he _ _ hp)
      refine ⟨c, hc, fun w => ?_⟩
      have e : (ps.map fun (x : Nat × Operand) => (x.1, ec x.2)) = (ps.toList.map fun p => (p.1, ec p.2)).toArray := by apply Array.ext'; simp
      simp only [execOp, Sem.run_bind]
      rw [e, hr w]; rfl
  case nilCheck x =>
    cases hx : ev x with
    | none => simp [hx] at h
    | some u =>
      cases u <;> simp [hx] at h
      · subst h
        have hxc := he x _ hx
        obtain ⟨pl, hb, hcx⟩ := conc_ptr hxc
        exact ⟨_, hxc, fun w => by simp [execOp, hcx]⟩
      · subst h
        have hxc := he x _ hx
        obtain ⟨l, hl, hcx⟩ := conc_func hxc
        exact ⟨_, hxc, fun w => by simp [execOp, hcx]⟩
  case binOp op t x y yt =>
    cases hx : ev x with
    | none => simp [hx] at h
    | some a =>
      cases hy : ev y with
      | none => simp [hx, hy] at h
      | some b =>
        simp only [hx, hy] at h
        split at h
        · rename_i hok
          obtain ⟨c, hc, hr⟩ := pbin_sound h (he x a hx) (he y b hy)
          exact ⟨c, hc, fun w => by simp [execOp, okEq_sound hok (he x a hx) (he y b hy), hr]⟩
        · cases h
  case unOp op t x =>
    cases hx : ev x with
    | none => simp [hx] at h
    | some a =>
      simp only [hx] at h
      obtain ⟨c, hc, hr⟩ := puna_sound (P := P) h (he x a hx)
      exact ⟨c, hc, fun w => by simp [execOp, hr]⟩
  case convert s d x =>
    cases hx : ev x with
    | none => simp [hx] at h
    | some a =>
      simp only [hx] at h
      obtain ⟨c, hc, hr⟩ := pconv_sound h (he x a hx)
      exact ⟨c, hc, fun w => by simp [execOp, hr]⟩
  case sliceToArrayPointer t x =>
    cases hx : ev x with
    | none => simp [hx] at h
    | some a =>
      simp only [hx] at h
      obtain ⟨c, hc, hr⟩ := psl2arr_sound h (he x a hx)
      exact ⟨c, hc, fun w => by simp [execOp, hr]⟩
  case makeInterface t x =>
    cases hx : ev x with
    | none => simp [hx] at h
    | some a =>
      simp only [hx] at h
      obtain ⟨c, hc, hr⟩ := pmkiface_sound h (he x a hx)
      exact ⟨c, hc, fun w => by simp [execOp, hr]⟩
  case makeFunc fn first cap =>
    cases fn <;> simp only at h <;> try (cases h; done)
    rename_i f
    cases hf : first.toList with
    | cons a r => simp [hf] at h
    | nil =>
      cases hl : evs ev cap.toList with
      | none => simp [hf, hl] at h
      | some l =>
        simp [hf, hl] at h
        subst h
        have hcap := evs_sound he _ _ hl
        have e1 : first = #[] := by apply Array.ext'; simpa using hf
        refine ⟨.func (.func f) #[] (cap.toList.map ec).toArray, by simp only [conc, hcap], fun w => ?_⟩
        have e2 : (cap.map ec) = (cap.toList.map ec).toArray := by apply Array.ext'; simp
        simp only [execOp, Instr.makeFunc, e1, e2, Sem.run_bind, Sem.run_pure, Result.andThen_ok]
        simp
  case slice t x lo hi mx =>
    cases hx : ev x with
    | none => simp [hx] at h
    | some a =>
      cases hl : evo ev lo with
      | none => simp [hx, hl] at h
      | some l =>
        cases hh : evo ev hi with
        | none => simp [hx, hl, hh] at h
        | some u =>
          cases hm : evo ev mx with
          | none => simp [hx, hl, hh, hm] at h
          | some m =>
            simp only [hx, hl, hh, hm] at h
            obtain ⟨c, hc, hr⟩ := pslice_sound h (he x a hx) (evo_sound he hl) (evo_sound he hh) (evo_sound he hm)
            exact ⟨c, hc, fun w => by simp only [execOp, Sem.run_bind, hr w, Result.andThen_ok, Sem.run_pure]⟩
  case fieldAddr s x f =>
    cases hx : ev x with
    | none => simp [hx] at h
    | some a =>
      simp only [hx] at h
      obtain ⟨c, hc, hr⟩ := pfieldAddr_sound h (he x a hx)
      exact ⟨c, hc, fun w => by simp [execOp, hr]⟩
  case field s x f =>
    cases hx : ev x with
    | none => simp [hx] at h
    | some a =>
      simp only [hx] at h
      obtain ⟨c, hc, hr⟩ := pfield_sound h (he x a hx)
      exact ⟨c, hc, fun w => by simp [execOp, hr]⟩
  case indexAddr t x i =>
    cases hx : ev x with
    | none => simp [hx] at h
    | some a =>
      cases hi : ev i with
      | none => simp [hx, hi] at h
      | some b =>
        simp only [hx, hi] at h
        obtain ⟨c, hc, hr⟩ := pindexAddr_sound h (he x a hx) (he i b hi)
        exact ⟨c, hc, fun w => by simp [execOp, hr]⟩
  case index t x i =>
    cases hx : ev x with
    | none => simp [hx] at h
    | some a =>
      cases hi : ev i with
      | none => simp [hx, hi] at h
      | some b =>
        simp only [hx, hi] at h
        obtain ⟨c, hc, hr⟩ := pindex_sound h (he x a hx) (he i b hi)
        exact ⟨c, hc, fun w => by simp [execOp, hr]⟩
  case extract x i =>
    cases hx : ev x with
    | none => simp [hx] at h
    | some a =>
      simp only [hx] at h
      obtain ⟨c, hc, hr⟩ := pextract_sound (P := P) h (he x a hx)
      exact ⟨c, hc, fun w => by simp [execOp, hr]⟩
  case call c =>
    obtain ⟨callee, args, argTypes⟩ := c
    cases callee <;> simp only at h <;> try (cases h; done)
    rename_i b
    cases hl : evs ev args.toList with
    | none => simp [hl] at h
    | some l =>
      simp only [hl] at h
      obtain ⟨c, hc, hr⟩ := pbuiltin_sound (ty := ty) (consts := args.map fun | .const _ => true | _ => false) h (evs_sound he _ _ hl)
      refine ⟨c, hc, fun w => ?_⟩
      have e : args.map ec = (args.toList.map ec).toArray := by apply Array.ext'; simp
      simp only [execOp, resolve, Sem.run_bind, Sem.run_pure, Result.andThen_ok, invoke, e]
      exact hr w

end Go.Eng
