/- The engine, part 5: the pure operations as one function, and that the model does the same. -/
import Derived.Test.YtcjgagkkanokjacGreatDoorE3
namespace Go.Eng

def puna (op : UnOp) : AV → Option AV
  | .int k n => match op with
    | .neg => some (.int k (k.wrap (0 - n)))
    | .xor => some (.int k (k.wrap (BitVec.ofInt k.bits (if k.signed then -1 else k.max) ^^^ BitVec.ofInt k.bits n).toNat))
    | _ => none
  | .bool b => match op with
    | .not => some (.bool !b)
    | _ => none
  | _ => none
theorem puna_sound {P : Program} {ρ : Rho} {op : UnOp} {x v : AV} {cx : Value} (h : puna op x = some v) (hx : conc ρ x = some cx) : ∃ c, conc ρ v = some c ∧ ∀ w, (Op.unary op cx).run P w = .ok c w := by
  cases x with
  | int k n =>
    rw [conc_int hx]
    cases op <;> simp only [puna] at h <;> first | (cases h; done) | (cases h; exact ⟨_, rfl, fun w => by simp [Op.unary, Op.intArith, Op.intBits]⟩)
  | bool b =>
    rw [conc_bool hx]
    cases op <;> simp only [puna] at h <;> first | (cases h; done) | (cases h; exact ⟨_, rfl, fun w => by simp [Op.unary]⟩)
  | _ => simp [puna] at h

def pconv (P : Program) (src dst : TypeId) (x : AV) : Option AV :=
  match P.underlying src, P.underlying dst, x with
  | some _, some (.int k), .int _ n => some (.int k (k.wrap n))
  | some _, some .string, .str s => some (.str s)
  | _, _, _ => none
theorem pconv_sound {P : Program} {ρ : Rho} {src dst : TypeId} {x v : AV} {cx : Value} (h : pconv P src dst x = some v) (hx : conc ρ x = some cx) : ∃ c, conc ρ v = some c ∧ ∀ w, (convert src dst cx).run P w = .ok c w := by
  unfold pconv at h
  split at h
  · rename_i hs hd
    cases h; rw [conc_int hx]
    exact ⟨_, rfl, fun w => by simp [convert, run_underlying hs, run_underlying hd, Conv.intToInt]⟩
  · rename_i hs hd
    cases h; rw [conc_str hx]
    exact ⟨_, rfl, fun w => by simp [convert, run_underlying hs, run_underlying hd]⟩
  · cases h

def psl2arr (P : Program) (arr : TypeId) (x : AV) : Option AV :=
  match P.underlying arr, x with
  | some (.array n _), .sl b o _ len _ => if n ≤ len ∧ 0 < len then some (.ptr b o) else none
  | _, _ => none
theorem psl2arr_sound {P : Program} {ρ : Rho} {arr : TypeId} {x v : AV} {cx : Value} (h : psl2arr P arr x = some v) (hx : conc ρ x = some cx) : ∃ c, conc ρ v = some c ∧ ∀ w, (Instr.arrayAt arr cx).run P w = .ok c w := by
  unfold psl2arr at h
  split at h
  · rename_i hu
    split at h
    · rename_i hl
      cases h
      obtain ⟨pl, hb, hle, rfl⟩ := conc_sl hx
      have hz : slCap pl _ _ ≠ 0 := Nat.ne_of_gt (Nat.lt_of_lt_of_le hl.2 hle)
      exact ⟨_, conc_ptr_mk hb (conc_sl_sp hx hb hz), fun w => by simp [Instr.arrayAt, run_underlying hu, Nat.not_lt.2 hl.1, slAt_pos hz, conc_sl_sp hx hb hz]⟩
    · cases h
  · cases h

def pmkiface (P : Program) (t : TypeId) (x : AV) : Option AV :=
  match P.underlying t with
  | some (.interface _) => none
  | some _ => some (.iface t x)
  | none => none
theorem pmkiface_sound {P : Program} {ρ : Rho} {t : TypeId} {x v : AV} {cx : Value} (h : pmkiface P t x = some v) (hx : conc ρ x = some cx) : ∃ c, conc ρ v = some c ∧ ∀ w, (Instr.makeInterface t cx).run P w = .ok c w := by
  unfold pmkiface at h
  cases hu : P.underlying t with
  | none => simp [hu] at h
  | some d =>
    refine ⟨.iface t cx, ?_, fun w => ?_⟩
    · cases d <;> simp [hu] at h <;> subst h <;> simp [conc, hx]
    · cases d <;> simp [hu] at h <;> simp [Instr.makeInterface, run_underlying hu]

/-- An index or a bound: an integer. -/
def nat? : AV → Option Nat
  | .int _ i => if 0 ≤ i then some i.toNat else none
  | _ => none
theorem nat?_some {x : AV} {n : Nat} (h : nat? x = some n) : ∃ k, x = .int k n := by
  cases x with
  | int k i =>
    simp only [nat?] at h
    split at h
    · rename_i hi; cases h; exact ⟨k, by rw [Int.toNat_of_nonneg hi]⟩
    · cases h
  | _ => simp [nat?] at h
/-- A bound that may be missing. -/
def bnd (x : Option AV) (d : Nat) : Option Nat := match x with | none => some d | some v => nat? v

/-- What is known of a capacity. -/
def kcap (len : Nat) : Cap → Nat
  | .at_ c => c
  | .op _ lb => Nat.max len lb
def pslice3 (P : Program) (t : TypeId) (x : AV) (lo hi : Option AV) (mx : AV) : Option AV :=
  match P.underlying t, x, hi with
  | some (.slice e), .sl b o z len cap, some hi =>
    match bnd lo 0, nat? hi, nat? mx, tsz P e with
    | some l, some h, some m, some s => if l ≤ h ∧ h ≤ m ∧ m ≤ kcap len cap then (if 0 < kcap len cap then some (.sl b (o + l * s) o (h - l) (.at_ (m - l))) else if z = o then some (.sl b (o + l * s) o (h - l) (.at_ (m - l))) else none) else none
    | _, _, _, _ => none
  | some (.slice e), .nilsl, some hi =>
    match bnd lo 0, nat? hi, nat? mx, tsz P e with
    | some 0, some 0, some 0, some _ => some .nilsl
    | _, _, _, _ => none
  | _, _, _ => none
def pslice (P : Program) (t : TypeId) (x : AV) (lo hi mx : Option AV) : Option AV :=
  match mx with
  | some m => pslice3 P t x lo hi m
  | none =>
    match P.underlying t, x with
    | some (.array n e), .ptr b o =>
      match bnd lo 0, bnd hi n, tsz P e with
      | some l, some h, some s => if l ≤ h ∧ h ≤ n then some (.sl b (o + l * s) o (h - l) (.at_ (n - l))) else none
      | _, _, _ => none
    | some .string, .str s =>
      match bnd lo 0, bnd hi s.length with
      | some l, some h => if l ≤ h ∧ h ≤ s.length then some (.str ((s.drop l).take (h - l))) else none
      | _, _ => none
    | some (.slice e), .sl b o z len cap =>
      match bnd lo 0, bnd hi len, tsz P e with
      | some l, some h, some s =>
        match cap with
        | .at_ c => if l ≤ h ∧ h ≤ c then some (.sl b (o + l * s) (if l = 0 then z else o) (h - l) (.at_ (c - l))) else none
        | .op s' lb => if l ≤ h ∧ h ≤ Nat.max len lb ∧ s = s' then some (.sl b (o + l * s) (if l = 0 then z else o) (h - l) (.op s (Nat.max len lb - l))) else none
      | _, _, _ => none
    | some (.slice e), .nilsl =>
      match bnd lo 0, bnd hi 0, tsz P e with
      | some 0, some 0, some _ => some .nilsl
      | _, _, _ => none
    | _, _ => none

theorem run_sliceBound {P : Program} {k : IntKind} {i y : Nat} (h : i ≤ y) (code : BoundsCode) (w : World) : (Instr.sliceBound (.int k i) y code).run P w = .ok i w := by
  simp [Instr.sliceBound, asIntOf, h]

/-- A value that may be missing. -/
def OptRel (ρ : Rho) : Option AV → Option Value → Prop
  | none, none => True
  | some v, some c => conc ρ v = some c
  | _, _ => False
theorem bnd_run {P : Program} {ρ : Rho} {x : Option AV} {cx : Option Value} {d n y : Nat} (h : bnd x d = some n) (hr : OptRel ρ x cx) (hn : n ≤ y) :
    (cx = none ∧ n = d) ∨ ∃ v, cx = some v ∧ ∀ (code : BoundsCode) (w : World), (Instr.sliceBound v y code).run P w = .ok n w := by
  cases x with
  | none =>
    cases cx with
    | none => exact .inl ⟨rfl, by simpa [bnd] using h.symm⟩
    | some c => exact hr.elim
  | some v =>
    cases cx with
    | none => exact hr.elim
    | some c =>
      obtain ⟨k, rfl⟩ := nat?_some (show nat? v = some n from h)
      rw [conc_int (show conc ρ _ = some c from hr)]
      exact .inr ⟨_, rfl, fun code w => run_sliceBound hn code w⟩
theorem run_bounds {P : Program} {ρ : Rho} {lo hi : Option AV} {clo chi : Option Value} {len cap l h : Nat} (sl : Bool) (hlo : bnd lo 0 = some l) (hhi : bnd hi len = some h)
    (rlo : OptRel ρ lo clo) (rhi : OptRel ρ hi chi) (hl : l ≤ h) (hh : h ≤ cap) (w : World) : (Instr.sliceBounds sl len cap clo chi none).run P w = .ok (l, h, cap) w := by
  rcases bnd_run (P := P) hlo rlo hl with ⟨rfl, rfl⟩ | ⟨v, rfl, hv⟩ <;> rcases bnd_run (P := P) hhi rhi hh with ⟨rfl, rfl⟩ | ⟨u, rfl, hu⟩ <;> simp [Instr.sliceBounds, *]

theorem go_extract (s : List UInt8) (l h : Nat) : ((⟨s.toArray⟩ : ByteArray).extract l h).data.toList = (s.drop l).take (h - l) := by
  simp
theorem addr_add (b o n : Nat) : (⟨b, o, none⟩ : Addr).add n = ⟨b, o + n, none⟩ := by
  unfold Addr.add; split <;> simp_all

theorem kcap_le {ρ : Rho} {b o z len : Nat} {cap : Cap} {c : Value} (h : conc ρ (.sl b o z len cap) = some c) {pl : Place} (hb : ρ b = some pl) (hl : len ≤ slCap pl o cap) : kcap len cap ≤ slCap pl o cap := by
  cases cap with
  | at_ c => exact Nat.le_refl _
  | op s lb => exact Nat.max_le.2 ⟨hl, conc_sl_lb h hb⟩
theorem run_bounds3 {P : Program} {ρ : Rho} {lo : Option AV} {clo : Option Value} {kh km : IntKind} {len cap l h m : Nat} (sl : Bool) (hlo : bnd lo 0 = some l) (rlo : OptRel ρ lo clo) (hl : l ≤ h) (hh : h ≤ m) (hm : m ≤ cap) (w : World) :
    (Instr.sliceBounds sl len cap clo (some (.int kh h)) (some (.int km m))).run P w = .ok (l, h, m) w := by
  rcases bnd_run (P := P) hlo rlo hl with ⟨rfl, rfl⟩ | ⟨v, rfl, hv⟩ <;> simp [Instr.sliceBounds, run_sliceBound hm, run_sliceBound hh, *]
theorem pslice3_sound {P : Program} {ρ : Rho} {t : TypeId} {x v : AV} {lo hi : Option AV} {mx : AV} {cx : Value} {clo chi : Option Value} {cmx : Value} (h : pslice3 P t x lo hi mx = some v) (hx : conc ρ x = some cx)
    (rlo : OptRel ρ lo clo) (rhi : OptRel ρ hi chi) (rmx : conc ρ mx = some cmx) : ∃ c, conc ρ v = some c ∧ ∀ w, (Instr.sliceAt t cx clo chi (some cmx)).run P w = .ok c w := by
  unfold pslice3 at h
  split at h
  · rename_i e b o z len cap hi hu
    cases chi with
    | none => exact rhi.elim
    | some chi =>
      have rhi : conc ρ hi = some chi := rhi
      split at h
      · rename_i l hh m s h1 h2 h3 h4
        obtain ⟨kh, rfl⟩ := nat?_some h2
        obtain ⟨km, rfl⟩ := nat?_some h3
        rw [conc_int rhi, conc_int rmx]
        split at h
        · rename_i hc
          obtain ⟨hc1, hc2, hc3⟩ := hc
          obtain ⟨pl, hb, hle, hcx⟩ := conc_sl hx
          have hcap := kcap_le hx hb hle
          have hz : slAt pl o z cap = o := by
            by_cases hk : 0 < kcap len cap
            · exact slAt_pos (by omega)
            · rw [if_neg hk] at h
              split at h
              · rename_i hzo; subst hzo; unfold slAt; cases Nat.beq (slCap pl z cap) 0 <;> rfl
              · cases h
          have hv : v = .sl b (o + l * s) o (hh - l) (.at_ (m - l)) := by
            split at h
            · exact (Option.some.inj h).symm
            · split at h
              · exact (Option.some.inj h).symm
              · cases h
          subst hv
          refine ⟨_, conc_sl_mk hb (show hh - l ≤ m - l by omega) (fun hne => conc_sl_sp hx hb (fun e => hne (show m - l = 0 by omega))), fun w => ?_⟩
          subst hcx
          simp only [Instr.sliceAt, Instr.slice, Sem.run_bind, run_underlying hu, Result.andThen_ok, Sem.run_pure, run_bounds3 true h1 rlo hc1 hc2 (Nat.le_trans hc3 hcap), run_sizeOf_tsz h4, Option.map_some, addr_add, hz]
          by_cases e : m = l
          · have s2 : slAt pl (o + l * s) o (.at_ (m - l)) = o := slAt_zero (by show m - l = 0; omega)
            rw [s2, if_pos e]; rfl
          · have s2 : slAt pl (o + l * s) o (.at_ (m - l)) = o + l * s := slAt_pos (by show m - l ≠ 0; omega)
            rw [s2, if_neg e, conc_sl_sp hx hb (fun e0 => e (by omega)), addr_add, Nat.add_assoc]; rfl
        · cases h
      · cases h
  · rename_i e hi hu
    cases chi with
    | none => exact rhi.elim
    | some chi =>
      have rhi : conc ρ hi = some chi := rhi
      have : cx = .slice none 0 0 := by simpa [conc] using hx.symm
      subst this
      split at h
      · rename_i s h1 h2 h3 h4
        cases h
        obtain ⟨kh, rfl⟩ := nat?_some h2
        obtain ⟨km, rfl⟩ := nat?_some h3
        rw [conc_int rhi, conc_int rmx]
        refine ⟨_, rfl, fun w => ?_⟩
        simp only [Instr.sliceAt, Instr.slice, Sem.run_bind, run_underlying hu, Result.andThen_ok, Sem.run_pure, run_bounds3 true h1 rlo (Nat.le_refl 0) (Nat.le_refl 0) (Nat.le_refl 0), run_sizeOf_tsz h4]
        simp
      · cases h
  · cases h

theorem pslice_sound {P : Program} {ρ : Rho} {t : TypeId} {x v : AV} {lo hi mx : Option AV} {cx : Value} {clo chi cmx : Option Value} (h : pslice P t x lo hi mx = some v) (hx : conc ρ x = some cx)
    (rlo : OptRel ρ lo clo) (rhi : OptRel ρ hi chi) (rmx : OptRel ρ mx cmx) : ∃ c, conc ρ v = some c ∧ ∀ w, (Instr.sliceAt t cx clo chi cmx).run P w = .ok c w := by
  unfold pslice at h
  cases mx with
  | some m =>
    cases cmx with
    | none => exact rmx.elim
    | some cm => exact pslice3_sound h hx rlo rhi rmx
  | none =>
    obtain rfl : cmx = none := by cases cmx <;> first | rfl | exact rmx.elim
    simp only at h
    split at h
    · rename_i n e b o hu
      split at h
      · rename_i l hh s h1 h2 h3
        split at h
        · rename_i hc
          cases h
          obtain ⟨pl, hb, rfl⟩ := conc_ptr hx
          refine ⟨_, conc_sl_mk hb (show hh - l ≤ n - l by omega) (fun _ => conc_ptr_sp hx hb), fun w => ?_⟩
          simp only [Instr.sliceAt, Sem.run_bind, run_underlying hu, Result.andThen_ok, Instr.sureAddr, Sem.run_pure, run_bounds false h1 h2 rlo rhi hc.1 hc.2, run_sizeOf_tsz h3, slCap, addr_add]
          by_cases e : n = l
          · subst e; rw [slAt_zero (by simp [slCap]), conc_ptr_sp hx hb]; simp
          · rw [if_neg e, slAt_pos (by simp only [slCap]; omega), conc_ptr_sp hx hb]; simp [Nat.add_assoc]
        · cases h
      · cases h
    · rename_i s hu
      split at h
      · rename_i l hh h1 h2
        split at h
        · rename_i hc
          cases h
          rw [conc_str hx]
          refine ⟨_, rfl, fun w => ?_⟩
          have hsz : (ByteArray.mk s.toArray).size = s.length := by simp [ByteArray.size]
          simp only [Instr.sliceAt, Instr.slice, Sem.run_bind, run_underlying hu, Result.andThen_ok, Sem.run_pure, hsz, run_bounds false h1 h2 rlo rhi hc.1 hc.2, Option.isSome_none, Bool.false_eq_true, if_false]
          rw [show (⟨s.toArray⟩ : ByteArray).extract l hh = ⟨((s.drop l).take (hh - l)).toArray⟩ from ByteArray.ext (Array.ext' (by rw [go_extract]))]
        · cases h
      · cases h
    · rename_i e b o z len cap hu
      obtain ⟨pl, hb, hle, hcx⟩ := conc_sl hx
      have hsp := conc_sl_sp hx hb
      split at h
      · rename_i l hh s h1 h2 h3
        split at h
        · rename_i c
          subst hcx
          split at h
          · rename_i hc
            cases h
            refine ⟨_, conc_sl_mk hb (show hh - l ≤ c - l by omega) (fun hne => hsp (show c ≠ 0 from fun e => hne (show c - l = 0 by omega))), fun w => ?_⟩
            simp only [Instr.sliceAt, Instr.slice, Sem.run_bind, run_underlying hu, Result.andThen_ok, Sem.run_pure, run_bounds true h1 h2 rlo rhi hc.1 (show hh ≤ slCap pl o (.at_ c) from hc.2), run_sizeOf_tsz h3, Option.map_some, addr_add]
            have k1 : slCap pl o (.at_ c) = c := rfl
            have k2 : slCap pl (o + l * s) (.at_ (c - l)) = c - l := rfl
            rw [k1, k2]
            by_cases e : c = l
            · have s2 : slAt pl (o + l * s) (if l = 0 then z else o) (.at_ (c - l)) = if l = 0 then z else o := slAt_zero (by rw [k2]; omega)
              rw [s2, if_pos e]
              by_cases e0 : c = 0
              · have s1 : slAt pl o z (.at_ c) = z := slAt_zero (k1.trans e0)
                rw [s1, if_pos (by omega)]
              · have s1 : slAt pl o z (.at_ c) = o := slAt_pos (by rw [k1]; exact e0)
                rw [s1, if_neg (by omega)]
            · have s2 : slAt pl (o + l * s) (if l = 0 then z else o) (.at_ (c - l)) = o + l * s := slAt_pos (by rw [k2]; omega)
              have s1 : slAt pl o z (.at_ c) = o := slAt_pos (by rw [k1]; omega)
              rw [s1, s2, if_neg e, hsp (show c ≠ 0 by omega), addr_add, Nat.add_assoc]
          · cases h
        · rename_i s' lb
          split at h
          · rename_i hc
            obtain ⟨hc1, hc2, hc3⟩ := hc
            subst hc3
            cases h
            have hlb : lb ≤ slCap pl o (.op s lb) := conc_sl_lb hx hb
            have hmax : Nat.max len lb ≤ slCap pl o (.op s lb) := Nat.max_le.2 ⟨hle, hlb⟩
            generalize hM : Nat.max len lb = M at *
            subst hcx
            have hk : (pl.endc - (pl.off + (o + l * s))) / s = (pl.endc - (pl.off + o)) / s - l := by
              rw [show pl.endc - (pl.off + (o + l * s)) = (pl.endc - (pl.off + o)) - s * l by rw [Nat.mul_comm s l]; omega]
              exact Nat.sub_mul_div _ _ _
            obtain ⟨C, hC⟩ : ∃ C, C = slCap pl o (.op s lb) := ⟨_, rfl⟩
            have k2 : slCap pl (o + l * s) (.op s (M - l)) = C - l := by rw [hC]; exact hk
            rw [← hC] at hle hmax
            refine ⟨_, conc_sl_mk hb (show hh - l ≤ slCap pl (o + l * s) (.op s (M - l)) by rw [k2]; omega) (fun hne => hsp (fun e => hne (by rw [k2]; omega))) (show M - l ≤ _ by rw [k2]; omega), fun w => ?_⟩
            simp only [Instr.sliceAt, Instr.slice, Sem.run_bind, run_underlying hu, Result.andThen_ok, Sem.run_pure, run_bounds true h1 h2 rlo rhi hc1 (show hh ≤ slCap pl o (.op s lb) by omega), run_sizeOf_tsz h3, Option.map_some, addr_add]
            rw [k2]
            have k1 : slCap pl o (.op s lb) = C := hC.symm
            rw [k1]
            by_cases e : C = l
            · have s2 : slAt pl (o + l * s) (if l = 0 then z else o) (.op s (M - l)) = if l = 0 then z else o := slAt_zero (by rw [k2]; omega)
              rw [s2, if_pos e]
              by_cases e0 : C = 0
              · have s1 : slAt pl o z (.op s lb) = z := slAt_zero (k1.trans e0)
                rw [s1, if_pos (by omega)]
              · have s1 : slAt pl o z (.op s lb) = o := slAt_pos (by rw [k1]; exact e0)
                rw [s1, if_neg (by omega)]
            · have s2 : slAt pl (o + l * s) (if l = 0 then z else o) (.op s (M - l)) = o + l * s := slAt_pos (by rw [k2]; omega)
              have s1 : slAt pl o z (.op s lb) = o := slAt_pos (by rw [k1]; omega)
              rw [s1, s2, if_neg e, hsp (by rw [k1]; omega), addr_add, Nat.add_assoc]
          · cases h
      · cases h
    · rename_i e hu
      have : cx = .slice none 0 0 := by simpa [conc] using hx.symm
      subst this
      split at h
      · rename_i s h1 h2 h3
        cases h
        refine ⟨_, rfl, fun w => ?_⟩
        simp only [Instr.sliceAt, Instr.slice, Sem.run_bind, run_underlying hu, Result.andThen_ok, Sem.run_pure, run_bounds true h1 h2 rlo rhi (Nat.le_refl 0) (Nat.le_refl 0), run_sizeOf_tsz h3]
        simp
      · cases h
    · cases h

end Go.Eng
/- The engine, part 6: fields, indexes, aggregates; the pure operations together. -/
namespace Go.Eng

def pfieldAddr (P : Program) (s : TypeId) (x : AV) (f : Nat) : Option AV :=
  match P.underlying s, x with
  | some (.struct fs), .ptr b o => match fs[f]? with
    | some fd => match tsz P fd.type with
      | some n => if n = 0 then none else some (.ptr b (o + fd.offset))
      | none => none
    | none => none
  | _, _ => none
theorem pfieldAddr_sound {P : Program} {ρ : Rho} {s : TypeId} {x v : AV} {f : Nat} {cx : Value} (h : pfieldAddr P s x f = some v) (hx : conc ρ x = some cx) : ∃ c, conc ρ v = some c ∧ ∀ w, (Instr.fieldAt s cx f).run P w = .ok c w := by
  unfold pfieldAddr at h
  split at h
  · rename_i fs b o hu
    split at h
    · rename_i fd hf
      split at h
      · rename_i n hn
        split at h
        · cases h
        · rename_i hn0
          cases h
          obtain ⟨pl, hb, rfl⟩ := conc_ptr hx
          refine ⟨_, conc_ptr_mk hb (conc_ptr_sp hx hb), fun w => ?_⟩
          simp only [Instr.fieldAt, Sem.run_bind, run_underlying hu, Result.andThen_ok, hf, Instr.sureAddr, Sem.run_pure, fieldPlace, run_sizeOf_tsz hn, hn0, if_false, addr_add, Nat.add_assoc]
      · cases h
    · cases h
  · cases h

def pfield (P : Program) (t : TypeId) (x : AV) (f : Nat) : Option AV :=
  match P.underlying t, x with
  | some (.struct fs), .agg cs => match fs[f]? with
    | some fd => apart P fd.type cs fd.offset
    | none => none
  | _, _ => none
theorem pfield_sound {P : Program} {ρ : Rho} {t : TypeId} {x v : AV} {f : Nat} {cx : Value} (h : pfield P t x f = some v) (hx : conc ρ x = some cx) : ∃ c, conc ρ v = some c ∧ ∀ w, (Instr.field t cx f).run P w = .ok c w := by
  unfold pfield at h
  split at h
  · rename_i fs cs hu
    split at h
    · rename_i fd hf
      obtain ⟨xs, hxs, rfl⟩ := conc_agg hx
      obtain ⟨c, hc, hr⟩ := apart_sound h hxs
      exact ⟨c, hc, fun w => by simp only [Instr.field, Sem.run_bind, run_underlying hu, Result.andThen_ok, hf, asAgg, Sem.run_pure, hr w]⟩
    · cases h
  · cases h

def pindexAddr (P : Program) (t : TypeId) (x ix : AV) : Option AV :=
  match nat? ix with
  | none => none
  | some i =>
    match P.underlying t, x with
    | some (.array n e), .ptr b o => match tsz P e with
      | some s => if i < n then some (.ptr b (o + i * s)) else none
      | none => none
    | some (.slice e), .sl b o _ len _ => match tsz P e with
      | some s => if i < len then some (.ptr b (o + i * s)) else none
      | none => none
    | _, _ => none
theorem pindexAddr_sound {P : Program} {ρ : Rho} {t : TypeId} {x ix v : AV} {cx ci : Value} (h : pindexAddr P t x ix = some v) (hx : conc ρ x = some cx) (hi : conc ρ ix = some ci) : ∃ c, conc ρ v = some c ∧ ∀ w, (Instr.indexAt t cx ci).run P w = .ok c w := by
  unfold pindexAddr at h
  cases hn : nat? ix with
  | none => simp [hn] at h
  | some i =>
    obtain ⟨k, rfl⟩ := nat?_some hn
    rw [conc_int hi]
    simp only [hn] at h
    split at h
    · rename_i n e b o hu
      split at h
      · rename_i s hs
        split at h
        · rename_i hlt
          cases h
          obtain ⟨pl, hb, rfl⟩ := conc_ptr hx
          refine ⟨_, conc_ptr_mk hb (conc_ptr_sp hx hb), fun w => ?_⟩
          have hc : (0 : Int) ≤ (i : Int) ∧ (i : Int) < (n : Int) := ⟨by omega, by omega⟩
          simp only [Instr.indexAt, asIntOf, Sem.run_bind, Sem.run_pure, run_underlying hu, Result.andThen_ok, Instr.sureAddr, hc, and_self, if_true, run_sizeOf_tsz hs, addr_add, Int.toNat_natCast, Nat.add_assoc]
        · cases h
      · cases h
    · rename_i e b o z len cap hu
      split at h
      · rename_i s hs
        split at h
        · rename_i hlt
          cases h
          obtain ⟨pl, hb, hle, rfl⟩ := conc_sl hx
          refine ⟨_, conc_ptr_mk hb (conc_sl_sp hx hb (by omega)), fun w => ?_⟩
          have hc : (0 : Int) ≤ (i : Int) ∧ (i : Int) < (len : Int) := ⟨by omega, by omega⟩
          rw [slAt_pos (by omega), conc_sl_sp hx hb (by omega)]
          simp only [Instr.indexAt, asIntOf, Sem.run_bind, Sem.run_pure, run_underlying hu, Result.andThen_ok, hc, and_self, if_true, run_sizeOf_tsz hs, addr_add, Int.toNat_natCast, Nat.add_assoc]
        · cases h
      · cases h
    · cases h

def pindex (P : Program) (t : TypeId) (x ix : AV) : Option AV :=
  match nat? ix with
  | none => none
  | some i =>
    match P.underlying t, x with
    | some (.array n e), .agg cs => match tsz P e with
      | some s => if i < n then apart P e cs (i * s) else none
      | none => none
    | some .string, .str s => match s[i]? with
      | some b => some (.int .u8 b.toNat)
      | none => none
    | _, _ => none
theorem pindex_sound {P : Program} {ρ : Rho} {t : TypeId} {x ix v : AV} {cx ci : Value} (h : pindex P t x ix = some v) (hx : conc ρ x = some cx) (hi : conc ρ ix = some ci) : ∃ c, conc ρ v = some c ∧ ∀ w, (Instr.index t cx ci).run P w = .ok c w := by
  unfold pindex at h
  cases hn : nat? ix with
  | none => simp [hn] at h
  | some i =>
    obtain ⟨k, rfl⟩ := nat?_some hn
    rw [conc_int hi]
    simp only [hn] at h
    split at h
    · rename_i n e cs hu
      split at h
      · rename_i s hs
        split at h
        · rename_i hlt
          obtain ⟨xs, hxs, rfl⟩ := conc_agg hx
          obtain ⟨c, hc', hr⟩ := apart_sound h hxs
          have hc : (0 : Int) ≤ (i : Int) ∧ (i : Int) < (n : Int) := ⟨by omega, by omega⟩
          exact ⟨c, hc', fun w => by simp only [Instr.index, asIntOf, Sem.run_bind, Sem.run_pure, run_underlying hu, Result.andThen_ok, hc, and_self, if_true, run_sizeOf_tsz hs, Int.toNat_natCast, hr w]⟩
        · cases h
      · cases h
    · rename_i s hu
      split at h
      · rename_i b hb
        cases h
        rw [conc_str hx]
        refine ⟨_, rfl, fun w => ?_⟩
        have hlt : i < s.length := (List.getElem?_eq_some_iff.1 hb).1
        have hget : (⟨s.toArray⟩ : ByteArray)[i]? = some b := by
          have hsz : i < (⟨s.toArray⟩ : ByteArray).size := by simpa [ByteArray.size] using hlt
          rw [getElem?_pos (⟨s.toArray⟩ : ByteArray) i hsz]
          have := (List.getElem?_eq_some_iff.1 hb).2
          rw [← this]; rfl
        simp only [Instr.index, asIntOf, Sem.run_bind, Sem.run_pure, run_underlying hu, Result.andThen_ok, Int.natCast_nonneg, if_true, Int.toNat_natCast, hget]
      · cases h
    · cases h

def pextract (x : AV) (i : Nat) : Option AV := match x with | .tuple vs => vs[i]? | _ => none
theorem pextract_sound {P : Program} {ρ : Rho} {x v : AV} {i : Nat} {cx : Value} (h : pextract x i = some v) (hx : conc ρ x = some cx) : ∃ c, conc ρ v = some c ∧ ∀ w, (Instr.extract cx i).run P w = .ok c w := by
  cases x <;> simp only [pextract] at h <;> try (cases h; done)
  obtain ⟨xs, hxs, rfl⟩ := conc_tuple hx
  obtain ⟨c, hc, hv⟩ := concs_get _ xs i v hxs h
  exact ⟨c, hv, fun w => by simp [Instr.extract, hc]⟩

/-- The zero value of a type. -/
def tzero (P : Program) (t : TypeId) : Option AV :=
  match P.info? t with
  | some i => (match i.zero with
    | some z => ofValue z
    | none => none)
  | none => none
theorem tzero_sound {P : Program} {ρ : Rho} {t : TypeId} {v : AV} (h : tzero P t = some v) : ∃ c, conc ρ v = some c ∧ (∃ i, P.info? t = some i ∧ i.zero = some c) ∧ ∀ w, (zeroValue t).run P w = .ok c w := by
  unfold tzero at h
  split at h
  · rename_i i hi
    split at h
    · rename_i z hz
      exact ⟨z, conc_ofValue h, ⟨i, hi, hz⟩, fun w => by simp [zeroValue, typeInfo, hi, hz]⟩
    · cases h
  · cases h

/-- Where a struct's fields lie. -/
def places (P : Program) : List Field → Option (List (Nat × Nat))
  | [] => some []
  | f :: r => match tsz P f.type, places P r with | some n, some l => some ((f.offset, n) :: l) | _, _ => none
theorem places_run {P : Program} : ∀ (fs : List Field) (l : List (Nat × Nat)), places P fs = some l → ∀ w, (fs.mapM fun f => do pure (f.offset, ← sizeOf f.type) : Sem (List (Nat × Nat))).run P w = .ok l w
  | [], l, h, w => by simp [places] at h; subst h; simp
  | f :: r, l, h, w => by
    simp only [places] at h
    cases hn : tsz P f.type with
    | none => simp [hn] at h
    | some n =>
      cases hr : places P r with
      | none => simp [hn, hr] at h
      | some l' =>
        simp [hn, hr] at h
        subst h
        simp only [List.mapM_cons, Sem.run_bind, run_sizeOf_tsz hn, Result.andThen_ok, Sem.run_pure, places_run r l' hr w]

def pbuild (P : Program) (t : TypeId) (ps : List (Nat × AV)) : Option AV :=
  match tzero P t with
  | none => none
  | some z =>
    match P.underlying t with
    | some (.struct fs) => match places P fs.toList with
      | some l => match afill (l[·]?) z.cells ps with
        | some cs => some (.agg cs)
        | none => none
      | none => none
    | some (.array _ e) => match tsz P e with
      | some n => match afill (fun i => some (i * n, n)) z.cells ps with
        | some cs => some (.agg cs)
        | none => none
      | none => none
    | _ => none
/-- Parts, abstract and concrete. -/
def PartsRel (ρ : Rho) (ps : List (Nat × AV)) (qs : List (Nat × Value)) : Prop := ps.length = qs.length ∧ ∀ (i : Nat) p, ps[i]? = some p → ∃ q, qs[i]? = some q ∧ q.1 = p.1 ∧ conc ρ p.2 = some q.2
theorem pbuild_sound {P : Program} {ρ : Rho} {t : TypeId} {ps : List (Nat × AV)} {qs : List (Nat × Value)} {v : AV} (h : pbuild P t ps = some v) (hq : PartsRel ρ ps qs) :
    ∃ c, conc ρ v = some c ∧ ∀ w, (Instr.build t qs.toArray).run P w = .ok c w := by
  unfold pbuild at h
  cases hz : tzero P t with
  | none => simp [hz] at h
  | some z =>
    simp only [hz] at h
    obtain ⟨cz, hcz, _, hrz⟩ := tzero_sound (ρ := ρ) hz
    have hcells := conc_cells hcz
    split at h
    · rename_i fs hu
      cases hp : places P fs.toList with
      | none => simp [hp] at h
      | some l =>
        simp only [hp] at h
        cases hf : afill (l[·]?) z.cells ps with
        | none => simp [hf] at h
        | some cs =>
          simp [hf] at h
          subst h
          obtain ⟨ys, h1, h2⟩ := afill_sound _ ps qs _ _ _ hf hcells hq
          refine ⟨_, conc_agg_mk h1, fun w => ?_⟩
          have hm : (fs.mapM fun f => do pure (f.offset, ← sizeOf f.type) : Sem (Array (Nat × Nat))).run P w = .ok l.toArray w := by
            have e : fs = fs.toList.toArray := by simp
            rw [e, List.mapM_toArray]
            simp only [Sem.run_map, places_run _ _ hp w, Result.andThen_ok]
          simp only [Instr.build, Sem.run_bind, hrz, Result.andThen_ok, run_underlying hu, hm]
          have e2 : Instr.fill (fun x => l[x]?) cz.cells qs = some ys.toArray := by simpa using h2
          simp [e2]
    · rename_i e hu
      split at h
      · rename_i n hn
        cases hf : afill (fun i => some (i * n, n)) z.cells ps with
        | none => simp [hf] at h
        | some cs =>
          simp [hf] at h
          subst h
          obtain ⟨ys, h1, h2⟩ := afill_sound _ ps qs _ _ _ hf hcells hq
          refine ⟨_, conc_agg_mk h1, fun w => ?_⟩
          simp only [Instr.build, Sem.run_bind, hrz, Result.andThen_ok, run_underlying hu, run_sizeOf_tsz hn]
          have e2 : Instr.fill (fun i => some (i * n, n)) cz.cells qs = some ys.toArray := by simpa using h2
          rw [e2]; simp
      · cases h
    · cases h

/-! ### the builtins that look at no memory -/
def plen (P : Program) (t : TypeId) (x : AV) : Option AV :=
  match P.underlying t, x with
  | some .string, .str s => some (.int .i64 s.length)
  | some (.array n _), _ => some (.int .i64 n)
  | some (.slice _), .sl _ _ _ len _ => some (.int .i64 len)
  | some (.slice _), .nilsl => some (.int .i64 0)
  | some (.map _ _), .nilmap => some (.int .i64 0)
  | _, _ => none
theorem plen_sound {P : Program} {ρ : Rho} {t ty : TypeId} {ts : Array TypeId} (h0 : ts[0]? = some t) {x v : AV} {cx : Value} (h : plen P t x = some v) (hx : conc ρ x = some cx) : ∃ c, conc ρ v = some c ∧ ∀ w, (Builtin.len_ ts ty #[cx]).run P w = .ok c w := by
  unfold plen at h
  split at h
  · rename_i s hu; cases h; rw [conc_str hx]
    exact ⟨_, rfl, fun w => by simp only [Builtin.len_, h0, run_underlying hu, Sem.run_bind, Result.andThen_ok, goInt, List.getElem?_toArray, List.getElem?_cons_zero]; simp [ByteArray.size]⟩
  · rename_i n _ hu; cases h; exact ⟨_, rfl, fun w => by cases cx <;> simp only [Builtin.len_, h0, run_underlying hu, Sem.run_bind, Result.andThen_ok, goInt, List.getElem?_toArray, List.getElem?_cons_zero, Sem.run_pure]⟩
  · rename_i hu; cases h; obtain ⟨pl, _, _, rfl⟩ := conc_sl hx
    exact ⟨_, rfl, fun w => by simp only [Builtin.len_, h0, run_underlying hu, Sem.run_bind, Result.andThen_ok, goInt, List.getElem?_toArray, List.getElem?_cons_zero, Sem.run_pure]⟩
  · rename_i hu; cases h; obtain rfl : cx = .slice none 0 0 := by simpa [conc] using hx.symm
    exact ⟨_, rfl, fun w => by simp only [Builtin.len_, h0, run_underlying hu, Sem.run_bind, Result.andThen_ok, goInt, List.getElem?_toArray, List.getElem?_cons_zero, Sem.run_pure]; rfl⟩
  · rename_i hu; cases h; obtain rfl : cx = .map none := by simpa [conc] using hx.symm
    exact ⟨_, rfl, fun w => by simp only [Builtin.len_, h0, run_underlying hu, Sem.run_bind, Result.andThen_ok, goInt, List.getElem?_toArray, List.getElem?_cons_zero, Sem.run_pure]⟩
  · cases h

def pcap (P : Program) (t : TypeId) (x : AV) : Option AV :=
  match P.underlying t, x with
  | some (.slice _), .sl _ _ _ _ (.at_ c) => some (.int .i64 c)
  | some (.slice _), .nilsl => some (.int .i64 0)
  | _, _ => none
theorem pcap_sound {P : Program} {ρ : Rho} {t ty : TypeId} {ts : Array TypeId} (h0 : ts[0]? = some t) {x v : AV} {cx : Value} (h : pcap P t x = some v) (hx : conc ρ x = some cx) : ∃ c, conc ρ v = some c ∧ ∀ w, (Builtin.cap_ ts ty #[cx]).run P w = .ok c w := by
  unfold pcap at h
  split at h
  · rename_i hu; cases h; obtain ⟨pl, _, _, rfl⟩ := conc_sl hx
    exact ⟨_, rfl, fun w => by simp only [Builtin.cap_, h0, run_underlying hu, Sem.run_bind, Result.andThen_ok, goInt, List.getElem?_toArray, List.getElem?_cons_zero, Sem.run_pure, slCap]⟩
  · rename_i hu; cases h; obtain rfl : cx = .slice none 0 0 := by simpa [conc] using hx.symm
    exact ⟨_, rfl, fun w => by simp only [Builtin.cap_, h0, run_underlying hu, Sem.run_bind, Result.andThen_ok, goInt, List.getElem?_toArray, List.getElem?_cons_zero, Sem.run_pure]; rfl⟩
  · cases h

def pminmax (mx : Bool) : List AV → Option AV
  | [] => none
  | .int k x :: rest => go k x rest
  | _ => none
  where go (k : IntKind) (x : Int) : List AV → Option AV
  | [] => some (.int k x)
  | .int _ y :: r => go k (if mx then (if y > x then y else x) else (if y < x then y else x)) r
  | _ => none
theorem pminmax_go {P : Program} {ρ : Rho} (mx : Bool) (k : IntKind) : ∀ (l : List AV) (cl : List Value) (x : Int) (v : AV), pminmax.go mx k x l = some v → concs ρ l = some cl → ∃ c, conc ρ v = some c ∧
    ∀ w, (cl.foldlM (if mx then Builtin.max2 else Builtin.min2) (.int k x)).run P w = .ok c w
  | [], cl, x, v, h, hl => by simp [concs] at hl; subst hl; simp [pminmax.go] at h; subst h; exact ⟨_, rfl, fun w => by simp⟩
  | a :: r, cl, x, v, h, hl => by
    cases a with
    | int k' y =>
      obtain ⟨ca, cr, ha, hr, rfl⟩ := concs_cons hl
      rw [conc_int ha]
      simp only [pminmax.go] at h
      obtain ⟨c, hc, hrun⟩ := pminmax_go mx k r cr _ v h hr
      refine ⟨c, hc, fun w => ?_⟩
      cases mx <;> simpa [List.foldlM_cons, Builtin.max2, Builtin.min2] using hrun w
    | _ => simp [pminmax.go] at h
theorem pminmax_sound {P : Program} {ρ : Rho} {mx : Bool} {ty : TypeId} {ts : Array TypeId} {l : List AV} {cl : List Value} {v : AV} (h : pminmax mx l = some v) (hl : concs ρ l = some cl) :
    ∃ c, conc ρ v = some c ∧ ∀ w, (if mx then Builtin.max_ ts ty cl.toArray else Builtin.min_ ts ty cl.toArray).run P w = .ok c w := by
  cases l with
  | nil => simp [pminmax] at h
  | cons a r =>
    cases a with
    | int k x =>
      obtain ⟨ca, cr, ha, hr, rfl⟩ := concs_cons hl
      rw [conc_int ha]
      simp only [pminmax] at h
      obtain ⟨c, hc, hrun⟩ := pminmax_go (P := P) mx k r cr x v h hr
      refine ⟨c, hc, fun w => ?_⟩
      cases mx
      · simpa [Builtin.min_] using hrun w
      · simpa [Builtin.max_] using hrun w
    | _ => simp [pminmax] at h

def pbuiltin (P : Program) (b : Builtin) (ts : List TypeId) (args : List AV) : Option AV :=
  match b, ts, args with
  | .len, t :: _, [x] => plen P t x
  | .cap, t :: _, [x] => pcap P t x
  | .min, _, l => pminmax false l
  | .max, _, l => pminmax true l
  | _, _, _ => none
theorem pbuiltin_sound {P : Program} {ρ : Rho} {b : Builtin} {ts : Array TypeId} {ty : TypeId} {consts : Array Bool} {args : List AV} {cargs : List Value} {v : AV} (h : pbuiltin P b ts.toList args = some v) (ha : concs ρ args = some cargs) :
    ∃ c, conc ρ v = some c ∧ ∀ w, (builtin b ts ty consts cargs.toArray).run P w = .ok (.value c) w := by
  unfold pbuiltin at h
  split at h
  · rename_i t r x hts
    obtain ⟨ca, cr, hca, hcr, rfl⟩ := concs_cons ha
    simp [concs] at hcr; subst hcr
    have h0 : ts[0]? = some t := by rw [← Array.getElem?_toList, hts]; rfl
    obtain ⟨c, hc, hr⟩ := plen_sound (P := P) (ty := ty) h0 h hca
    exact ⟨c, hc, fun w => by simp [builtin, hr w]⟩
  · rename_i t r x hts
    obtain ⟨ca, cr, hca, hcr, rfl⟩ := concs_cons ha
    simp [concs] at hcr; subst hcr
    have h0 : ts[0]? = some t := by rw [← Array.getElem?_toList, hts]; rfl
    obtain ⟨c, hc, hr⟩ := pcap_sound (P := P) (ty := ty) h0 h hca
    exact ⟨c, hc, fun w => by simp [builtin, hr w]⟩
  · obtain ⟨c, hc, hr⟩ := pminmax_sound (P := P) (ty := ty) (ts := ts) h ha
    exact ⟨c, hc, fun w => by have := hr w; simp at this; simp [builtin, this]⟩
  · obtain ⟨c, hc, hr⟩ := pminmax_sound (P := P) (ty := ty) (ts := ts) h ha
    exact ⟨c, hc, fun w => by have := hr w; simp at this; simp [builtin, this]⟩
  · cases h

theorem conc_tuple2 {ρ : Rho} {v : AV} {c : Value} (h : conc ρ v = some c) (t : Bool) : conc ρ (.tuple [v, .bool t]) = some (.tuple #[c, .bool t]) := by
  simp [conc, concs, h]
/-! ### type assertions -/
def atassert (P : Program) (x : AV) (asserted : TypeId) (ok : Bool) : Option AV :=
  match P.underlying asserted with
  | some (.interface _) => none
  | none => none
  | some _ => match x with
    | .iface t v => if t = asserted then some (if ok then .tuple [v, .bool true] else v) else if ok then (match tzero P asserted with | some z => some (.tuple [z, .bool false]) | none => none) else none
    | .nilIface => if ok then (match tzero P asserted with | some z => some (.tuple [z, .bool false]) | none => none) else none
    | _ => none
theorem atassert_sound {P : Program} {ρ : Rho} {x v : AV} {xt asserted : TypeId} {ok : Bool} {cx : Value} (ha : atassert P x asserted ok = some v) (hx : conc ρ x = some cx) :
    ∃ c, conc ρ v = some c ∧ ∀ w, (Instr.typeAssert cx xt asserted ok).run P w = .ok c w := by
  unfold atassert at ha
  split at ha
  · cases ha
  · cases ha
  rename_i d hni hu
  have fails : ∀ z cz, tzero P asserted = some z → conc ρ z = some cz → conc ρ (.tuple [z, .bool false]) = some (.tuple #[cz, .bool false]) := fun z cz _ h => conc_tuple2 h false
  split at ha
  · rename_i t u
    obtain ⟨cu, hcu, rfl⟩ := conc_iface hx
    split at ha
    · rename_i ht
      subst ht
      simp only [Option.some.injEq] at ha
      subst ha
      refine ⟨if ok then .tuple #[cu, .bool true] else cu, by cases ok; exact hcu; exact conc_tuple2 hcu true, fun w => ?_⟩
      cases d <;> first | exact (hni _ rfl).elim | (simp [Instr.typeAssert, run_underlying hu]; done)
    · rename_i ht
      split at ha
      · rename_i hok
        split at ha
        · rename_i z hz
          cases ha
          obtain ⟨cz, hcz, _, hrz⟩ := tzero_sound (ρ := ρ) hz
          refine ⟨_, conc_tuple2 hcz false, fun w => ?_⟩
          cases d <;> first | exact (hni _ rfl).elim | (simp [Instr.typeAssert, run_underlying hu, ht, hok, hrz]; done)
        · cases ha
      · cases ha
  · obtain rfl : cx = .nilIface := by simpa [conc] using hx.symm
    split at ha
    · rename_i hok
      split at ha
      · rename_i z hz
        cases ha
        obtain ⟨cz, hcz, _, hrz⟩ := tzero_sound (ρ := ρ) hz
        refine ⟨_, conc_tuple2 hcz false, fun w => ?_⟩
        cases d <;> first | exact (hni _ rfl).elim | (simp [Instr.typeAssert, run_underlying hu, hok, hrz]; done)
      · cases ha
    · cases ha
  · cases ha
end Go.Eng
/- The engine, extra operations, part 6: == on structs of a bool and a number. -/
namespace Go.Eng
/-- A struct of a bool and a number. -/
def eqSt (P : Program) (t : TypeId) : Bool :=
  !(P.eqGuardType P.depth t) && !(P.stoodInHeld t) && (match P.underlying t with
  | some (.struct fs) => match fs.toList with
    | [f0, f1] => f0.name != "_" && f1.name != "_" && Nat.beq f0.offset 0 && Nat.beq f1.offset 1 && isAggT P f0.type == some false && isAggT P f1.type == some false && (match P.underlying f0.type, P.underlying f1.type with
      | some .bool, some (.int _) => true
      | _, _ => false)
    | _ => false
  | _ => false)
def pagg (P : Program) (op : BinOp) (t : TypeId) (a b : AV) : Option AV := match op, a, b with
  | .eql, .agg [.bool p, .int k m], .agg [.bool q, .int k' n] => if k = k' then (if eqSt P t = true then some (.bool (p == q && m == n)) else none) else none
  | _, _, _ => none
theorem pagg_sound {P : Program} {ρ : Rho} {op : BinOp} {t : TypeId} {x y : Operand} {a b v : AV} {ca cb : Value} (h : pagg P op t a b = some v) (ha : conc ρ a = some ca) (hb : conc ρ b = some cb) :
    ∃ c, conc ρ v = some c ∧ ∀ w, (eqGuard op t x y ca cb).run P w = .ok () w ∧ (binOp op t ca cb).run P w = .ok c w := by
  unfold pagg at h
  split at h
  case h_2 => cases h
  rename_i p k m q k' n
  split at h
  case isFalse => cases h
  rename_i hk
  subst hk
  split at h
  case isFalse => cases h
  rename_i hs
  cases h
  obtain ⟨xs, hxs, rfl⟩ := conc_agg ha
  obtain ⟨ys, hys, rfl⟩ := conc_agg hb
  simp only [concs, conc, Option.some.injEq] at hxs hys
  subst hxs
  subst hys
  unfold eqSt at hs
  simp only [Bool.and_eq_true, Bool.not_eq_true'] at hs
  obtain ⟨⟨s1, s2⟩, s3⟩ := hs
  split at s3
  case h_2 => cases s3
  rename_i fs hu
  split at s3
  case h_2 => cases s3
  rename_i f0 f1 hl
  have hfs : fs = #[f0, f1] := by apply Array.ext'; simpa using hl
  subst hfs
  simp only [Bool.and_eq_true, Nat.beq_eq, beq_iff_eq, bne_iff_ne, ne_eq] at s3
  obtain ⟨⟨⟨⟨⟨⟨n0, n1⟩, o0⟩, o1⟩, a0⟩, a1⟩, s4⟩ := s3
  split at s4
  case h_2 => cases s4
  rename_i kd u0 u1
  refine ⟨.bool (p == q && m == n), rfl, fun w => ⟨?_, ?_⟩⟩
  · have hp : ∀ w, (program : Sem Program).run P w = .ok P w := fun w => rfl
    unfold eqGuard
    simp only [Bool.not_true, Bool.false_eq_true, if_false, Sem.run_bind, hp, Result.andThen_ok, s1, Bool.not_false, if_true]
    rfl
  · rw [binOp_eql rfl]
    have hp : ∀ w, (program : Sem Program).run P w = .ok P w := fun w => rfl
    have e0 : ∀ d, (Op.equalIn (d + 1) f0.type (.bool p) (.bool q)).run P w = .ok (p == q) w := fun d => by simp [Op.equalIn, run_underlying u0]
    have e1 : ∀ d, (Op.equalIn (d + 1) f1.type (.int k m) (.int k n)).run P w = .ok (m == n) w := fun d => by simp [Op.equalIn, run_underlying u1]
    have p0 : ∀ u v : Value, (part f0.type #[u, v] 0).run P w = .ok u w := fun u v => by
      simp only [part, Sem.run_bind, run_isAggT a0 w, Result.andThen_ok, Bool.false_eq_true, if_false]
      rfl
    have p1 : ∀ u v : Value, (part f1.type #[u, v] 1).run P w = .ok v w := fun u v => by
      simp only [part, Sem.run_bind, run_isAggT a1 w, Result.andThen_ok, Bool.false_eq_true, if_false]
      rfl
    have key : ∀ d, (Op.equalIn (d + 1 + 1) t (.agg #[.bool p, .int k m]) (.agg #[.bool q, .int k n])).run P w = .ok (p == q && m == n) w := fun d => by
      rw [Op.equalIn]
      simp only [Sem.run_bind, run_underlying hu, Result.andThen_ok, hp, s2, Bool.false_eq_true, if_false]
      simp [n0, n1, o0, o1, p0, p1, e0, e1]
      by_cases hpq : p = q <;> by_cases hmn : m = n <;> simp [hpq, hmn]
    have : (Op.equal t (.agg #[.bool p, .int k m]) (.agg #[.bool q, .int k n])).run P w = .ok (p == q && m == n) w := key 9998
    simp only [Sem.run_bind, this, Result.andThen_ok, Sem.run_pure]
end Go.Eng
