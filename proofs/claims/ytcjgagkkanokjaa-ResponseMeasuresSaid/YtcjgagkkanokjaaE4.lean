/- The engine, part 4: the operations that look at no memory: what each yields, and that the model yields it too. -/
import Derived.Test.YtcjgagkkanokjaaE3
namespace Go.Eng

theorem conc_int {ρ : Rho} {k : IntKind} {n : Int} {c : Value} (h : conc ρ (.int k n) = some c) : c = .int k n := by simpa [conc] using h.symm
theorem conc_bool {ρ : Rho} {b : Bool} {c : Value} (h : conc ρ (.bool b) = some c) : c = .bool b := by simpa [conc] using h.symm
theorem conc_str {ρ : Rho} {s : List UInt8} {c : Value} (h : conc ρ (.str s) = some c) : c = .string ⟨s.toArray⟩ := by simpa [conc] using h.symm
theorem conc_ptr {ρ : Rho} {b o : Nat} {c : Value} (h : conc ρ (.ptr b o) = some c) : ∃ pl, ρ b = some pl ∧ c = .pointer (some ⟨pl.blk, pl.off + o, none⟩) := by
  simp only [conc] at h
  cases hb : ρ b with
  | none => simp [hb] at h
  | some pl => simp [hb] at h; exact ⟨pl, rfl, h.symm⟩
theorem conc_sl {ρ : Rho} {b o z len : Nat} {cap : Cap} {c : Value} (h : conc ρ (.sl b o z len cap) = some c) :
    ∃ pl, ρ b = some pl ∧ len ≤ slCap pl o cap ∧ c = .slice (some ⟨pl.blk, pl.off + slAt pl o z cap, none⟩) len (slCap pl o cap) := by
  simp only [conc] at h
  cases hb : ρ b with
  | none => simp [hb] at h
  | some pl =>
    simp only [hb] at h
    obtain ⟨h1, h2⟩ := slVal_some h
    exact ⟨pl, rfl, h1, h2⟩
theorem conc_sl_mk {ρ : Rho} {b o z len : Nat} {cap : Cap} {pl : Place} (hb : ρ b = some pl) (hl : len ≤ slCap pl o cap) :
    conc ρ (.sl b o z len cap) = some (.slice (some ⟨pl.blk, pl.off + slAt pl o z cap, none⟩) len (slCap pl o cap)) := by
  simp only [conc, hb, slVal, if_pos hl]
theorem conc_ptr_mk {ρ : Rho} {b o : Nat} {pl : Place} (hb : ρ b = some pl) : conc ρ (.ptr b o) = some (.pointer (some ⟨pl.blk, pl.off + o, none⟩)) := by
  simp only [conc, hb]
theorem conc_agg {ρ : Rho} {cs : List AV} {c : Value} (h : conc ρ (.agg cs) = some c) : ∃ x, concs ρ cs = some x ∧ c = .agg x.toArray := by
  simp only [conc] at h
  cases hc : concs ρ cs with
  | none => simp [hc] at h
  | some x => simp [hc] at h; exact ⟨x, rfl, h.symm⟩
theorem conc_agg_mk {ρ : Rho} {cs : List AV} {x : List Value} (h : concs ρ cs = some x) : conc ρ (.agg cs) = some (.agg x.toArray) := by simp only [conc, h]
theorem conc_tuple {ρ : Rho} {cs : List AV} {c : Value} (h : conc ρ (.tuple cs) = some c) : ∃ x, concs ρ cs = some x ∧ c = .tuple x.toArray := by
  simp only [conc] at h
  cases hc : concs ρ cs with
  | none => simp [hc] at h
  | some x => simp [hc] at h; exact ⟨x, rfl, h.symm⟩
theorem conc_tuple_mk {ρ : Rho} {cs : List AV} {x : List Value} (h : concs ρ cs = some x) : conc ρ (.tuple cs) = some (.tuple x.toArray) := by simp only [conc, h]
theorem conc_func {ρ : Rho} {f : FuncId} {cs : List AV} {c : Value} (h : conc ρ (.func f cs) = some c) : ∃ x, concs ρ cs = some x ∧ c = .func (.func f) #[] x.toArray := by
  simp only [conc] at h
  cases hc : concs ρ cs with
  | none => simp [hc] at h
  | some x => simp [hc] at h; exact ⟨x, rfl, h.symm⟩
theorem conc_iface {ρ : Rho} {t : TypeId} {v : AV} {c : Value} (h : conc ρ (.iface t v) = some c) : ∃ x, conc ρ v = some x ∧ c = .iface t x := by
  simp only [conc] at h
  cases hc : conc ρ v with
  | none => simp [hc] at h
  | some x => simp [hc] at h; exact ⟨x, rfl, h.symm⟩

/-! ### the binary operators -/
theorem pint_sound {P : Program} {op : BinOp} {k : IntKind} {a b : Int} {v : AV} {t : TypeId} (h : pint op k a b = some v) : ∃ c, (∀ ρ, conc ρ v = some c) ∧ ∀ w, (binOp op t (.int k a) (.int k b)).run P w = .ok c w := by
  unfold pint at h
  cases op <;> simp only at h
  case quo =>
    split at h
    · cases h
    · rename_i hb; cases h; exact ⟨_, fun _ => rfl, fun w => by simp [binOp, Op.intDiv, hb]⟩
  case rem =>
    split at h
    · cases h
    · rename_i hb; cases h; exact ⟨_, fun _ => rfl, fun w => by simp [binOp, Op.intDiv, hb]⟩
  case shl => cases h
  case shr => cases h
  all_goals (cases h; exact ⟨_, fun _ => rfl, fun w => by simp [binOp, Op.intArith, Op.intBits, Op.intCmp]⟩)
theorem pshift_sound {P : Program} {op : BinOp} {k k' : IntKind} {a b : Int} {v : AV} {t : TypeId} (h : pshift op k a b = some v) : ∃ c, (∀ ρ, conc ρ v = some c) ∧ ∀ w, (binOp op t (.int k a) (.int k' b)).run P w = .ok c w := by
  unfold pshift at h
  split at h
  · cases h
  · rename_i hb
    cases op <;> simp only at h <;> try (cases h; done)
    all_goals (cases h; exact ⟨_, fun _ => rfl, fun w => by simp [binOp, Op.shift, hb]⟩)
theorem pstr_sound {P : Program} {op : BinOp} {x y : List UInt8} {v : AV} {t : TypeId} (h : pstr op x y = some v) : ∃ c, (∀ ρ, conc ρ v = some c) ∧ ∀ w, (binOp op t (.string ⟨x.toArray⟩) (.string ⟨y.toArray⟩)).run P w = .ok c w := by
  unfold pstr at h
  cases op <;> simp only at h <;> try (cases h; done)
  case add =>
    split at h
    · cases h
    · rename_i hb
      cases h
      refine ⟨_, fun _ => rfl, fun w => ?_⟩
      have hs : ∀ l : List UInt8, (ByteArray.mk l.toArray).size = l.length := fun l => by simp [ByteArray.size]
      have e : (ByteArray.mk x.toArray ++ ByteArray.mk y.toArray) = ByteArray.mk (x ++ y).toArray := by
        apply ByteArray.ext; simp
      have hb' : ¬ (((⟨x.toArray⟩ : ByteArray).size + (⟨y.toArray⟩ : ByteArray).size : Nat) : Int) > IntKind.i64.max := by rw [hs, hs]; exact hb
      simp only [binOp, Op.stringOp, if_neg hb', e, Sem.run_pure]
  all_goals (cases h; exact ⟨_, fun _ => rfl, fun w => by simp [binOp, Op.stringOp, ByteArray.toList_mk]⟩)

/-- No number, no string. -/
def Value.other : Value → Bool
  | .int _ _ | .float _ _ | .complex _ _ _ | .string _ => false
  | _ => true
def AV.other : AV → Bool
  | .int _ _ | .str _ => false
  | _ => true
theorem conc_other {ρ : Rho} {v : AV} {c : Value} (h : conc ρ v = some c) (hv : v.other = true) : Value.other c = true := by
  cases v with
  | sl b o z len cap => obtain ⟨pl, _, _, rfl⟩ := conc_sl h; rfl
  | int k n => simp [AV.other] at hv
  | str s => simp [AV.other] at hv
  | _ =>
    simp only [conc] at h
    (try split at h)
    all_goals first
      | (cases h; rfl)
      | (cases h; done)
theorem aeq_other {P : Program} {t : TypeId} {x y : AV} {b : Bool} (h : aeq P t x y = some b) : x.other = true ∧ y.other = true := by
  unfold aeq at h
  split at h <;> first | exact ⟨rfl, rfl⟩ | (cases h; done)
theorem binOp_eql {t : TypeId} {x y : Value} (hx : Value.other x = true) : binOp .eql t x y = (do pure (.bool (← Op.equal t x y)) : Sem Value) := by
  cases x <;> first | rfl | (simp [Value.other] at hx; done) | (cases y <;> rfl)
theorem binOp_neq {t : TypeId} {x y : Value} (hx : Value.other x = true) : binOp .neq t x y = (do pure (.bool (!(← Op.equal t x y))) : Sem Value) := by
  cases x <;> first | rfl | (simp [Value.other] at hx; done) | (cases y <;> rfl)

theorem pbin_sound {P : Program} {ρ : Rho} {op : BinOp} {t : TypeId} {x y v : AV} {cx cy : Value} (h : pbin P op t x y = some v) (hx : conc ρ x = some cx) (hy : conc ρ y = some cy) :
    ∃ c, conc ρ v = some c ∧ ∀ w, (binOp op t cx cy).run P w = .ok c w := by
  have eqq : ∀ {b : Bool}, aeq P t x y = some b → ∀ w, (Op.equal t cx cy).run P w = .ok b w := fun {b} hb w => equalIn_of_aeq hb hx hy 9999 w
  unfold pbin at h
  split at h
  · rw [conc_int hx, conc_int hy]; obtain ⟨c, h1, h2⟩ := pshift_sound (P := P) (t := t) (k' := _) h; exact ⟨c, h1 ρ, h2⟩
  · rw [conc_int hx, conc_int hy]; obtain ⟨c, h1, h2⟩ := pshift_sound (P := P) (t := t) (k' := _) h; exact ⟨c, h1 ρ, h2⟩
  · split at h
    · rename_i hk; subst hk
      rw [conc_int hx, conc_int hy]; obtain ⟨c, h1, h2⟩ := pint_sound (P := P) (t := t) h; exact ⟨c, h1 ρ, h2⟩
    · cases h
  · rw [conc_str hx, conc_str hy]; obtain ⟨c, h1, h2⟩ := pstr_sound (P := P) (t := t) h; exact ⟨c, h1 ρ, h2⟩
  · cases hb : aeq P t x y with
    | none => simp [hb] at h
    | some b =>
      simp [hb] at h
      subst h
      exact ⟨.bool b, rfl, fun w => by rw [binOp_eql (conc_other hx (aeq_other hb).1)]; simp [eqq hb w]⟩
  · cases hb : aeq P t x y with
    | none => simp [hb] at h
    | some b =>
      simp [hb] at h
      subst h
      exact ⟨.bool !b, rfl, fun w => by rw [binOp_neq (conc_other hx (aeq_other hb).1)]; simp [eqq hb w]⟩
  · cases h

/-! ### evaluation of operands -/
/-- The abstract operands' values stand for the concrete ones. -/
def EvRel (ρ : Rho) (ev : Operand → Option AV) (ec : Operand → Value) : Prop := ∀ x v, ev x = some v → conc ρ v = some (ec x)

def evs (ev : Operand → Option AV) : List Operand → Option (List AV)
  | [] => some []
  | x :: r => match ev x, evs ev r with | some a, some b => some (a :: b) | _, _ => none
theorem evs_sound {ρ : Rho} {ev : Operand → Option AV} {ec : Operand → Value} (he : EvRel ρ ev ec) : ∀ (l : List Operand) (a : List AV), evs ev l = some a → concs ρ a = some (l.map ec)
  | [], a, h => by simp [evs] at h; subst h; rfl
  | x :: r, a, h => by
    simp only [evs] at h
    cases hx : ev x with
    | none => simp [hx] at h
    | some v =>
      cases hr : evs ev r with
      | none => simp [hx, hr] at h
      | some b =>
        simp [hx, hr] at h
        subst h
        exact concs_cons_mk (he x v hx) (evs_sound he r b hr)
def evps (ev : Operand → Option AV) : List (Nat × Operand) → Option (List (Nat × AV))
  | [] => some []
  | (i, x) :: r => match ev x, evps ev r with | some a, some b => some ((i, a) :: b) | _, _ => none

/-! ### building values -/
def splice (cs : List AV) (o : Nat) (vs : List AV) : List AV := cs.take o ++ vs ++ cs.drop (o + vs.length)
def afill (place : Nat → Option (Nat × Nat)) (cells : List AV) : List (Nat × AV) → Option (List AV)
  | [] => some cells
  | (i, v) :: rest =>
    match place i with
    | none => none
    | some (off, size) => if v.cells.length = size ∧ off + v.cells.length ≤ cells.length then afill place (splice cells off v.cells) rest else none

theorem foldl_splice (off : Nat) : ∀ (vs : List Value) (k : Nat) (cs : Array Value), off + k + vs.length ≤ cs.size →
    (vs.zipIdx k).foldl (fun cs p => cs.setIfInBounds (off + p.2) p.1) cs = (cs.toList.take (off + k) ++ vs ++ cs.toList.drop (off + k + vs.length)).toArray
  | [], k, cs, _ => by simp
  | v :: r, k, cs, h => by
    simp only [List.length_cons] at h
    rw [List.zipIdx_cons, List.foldl_cons, foldl_splice off r (k + 1) _ (by simp; omega)]
    have e := list_seg_step cs.toList (off + k) v r (by simp; omega)
    congr 1
    simp only [Array.toList_setIfInBounds]
    rw [show off + (k + 1) = off + k + 1 by omega, e]
    simp only [List.length_cons]

theorem concs_splice {ρ : Rho} {cs vs : List AV} {xs ys : List Value} (h : concs ρ cs = some xs) (k : concs ρ vs = some ys) (o : Nat) :
    concs ρ (splice cs o vs) = some (xs.take o ++ ys ++ xs.drop (o + ys.length)) := by
  unfold splice
  rw [concs_length vs ys k]
  exact concs_append _ _ _ _ (concs_append _ _ _ _ (concs_take o _ _ h) k) (concs_drop _ _ _ h)

theorem afill_sound {ρ : Rho} (place : Nat → Option (Nat × Nat)) : ∀ (ps : List (Nat × AV)) (qs : List (Nat × Value)) (cells out : List AV) (xs : List Value),
    afill place cells ps = some out → concs ρ cells = some xs → (ps.length = qs.length ∧ ∀ (i : Nat) p, ps[i]? = some p → ∃ q, qs[i]? = some q ∧ q.1 = p.1 ∧ conc ρ p.2 = some q.2) →
    ∃ ys, concs ρ out = some ys ∧ Instr.fill place xs.toArray qs = some ys.toArray
  | [], [], cells, out, xs, h, hx, _ => by simp [afill] at h; subst h; exact ⟨xs, hx, rfl⟩
  | [], _ :: _, _, _, _, _, _, hq => by simp at hq
  | _ :: _, [], _, _, _, _, _, hq => by simp at hq
  | (i, v) :: ps, (i', u) :: qs, cells, out, xs, h, hx, hq => by
    obtain ⟨q, hq0, hqi, hqv⟩ := hq.2 0 (i, v) rfl
    simp at hq0; subst hq0
    simp only at hqi hqv
    subst hqi
    simp only [afill] at h
    cases hp : place i' with
    | none => simp [hp] at h
    | some os =>
      obtain ⟨off, size⟩ := os
      simp only [hp] at h
      split at h
      · rename_i hc
        have hcells := conc_cells hqv
        have hl1 := concs_length _ _ hcells
        have hl2 := concs_length _ _ hx
        have hcl : u.cells.size = v.cells.length := by simpa using hl1
        obtain ⟨ys, h1, h2⟩ := afill_sound place ps qs _ out _ h (concs_splice hx hcells off) ⟨by simpa using hq.1, fun j p hj => by simpa using hq.2 (j + 1) p (by simpa using hj)⟩
        refine ⟨ys, h1, ?_⟩
        simp only [Instr.fill, hp]
        rw [if_neg]
        · rw [← h2]
          congr 1
          have := foldl_splice off u.cells.toList 0 xs.toArray (by simp; omega)
          simp only [Nat.add_zero] at this
          rw [← this, ← Array.foldl_toList, Array.toList_zipIdx]
        · simp; omega
      · cases h

end Go.Eng
