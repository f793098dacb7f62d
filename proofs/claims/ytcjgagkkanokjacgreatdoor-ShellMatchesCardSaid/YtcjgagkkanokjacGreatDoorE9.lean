/- The engine, part 9: append. -/
import Derived.Test.YtcjgagkkanokjacGreatDoorE7
namespace Go.Eng

def byteAV (x : UInt8) : AV := .int .u8 x.toNat

/-- What the second argument of an append, or of a copy, holds. -/
def srcCells (P : Program) (h : AHeap) (tx : TypeId) (x : AV) (size : Nat) : Option (Nat × List AV) :=
  match P.underlying tx, x with
  | some (.slice _), .sl b o _ len _ =>
    if len = 0 then some (0, []) else
    match h.get b with
    | .cells _ cs _ => if o + len * size ≤ cs.length then some (len, (cs.drop o).take (len * size)) else none
    | _ => none
  | some (.slice _), .nilsl => some (0, [])
  | some .string, .str s => if size = 1 then some (s.length, s.map byteAV) else none
  | _, _ => none

theorem concs_bytes {ρ : Rho} : ∀ s : List UInt8, concs ρ (s.map byteAV) = some (s.map fun b => Value.int .u8 b.toNat)
  | [] => rfl
  | _ :: r => concs_cons_mk rfl (concs_bytes r)

theorem srcCells_sound {P : Program} {ρ : Rho} {h : AHeap} {w : World} {tx : TypeId} {x : AV} {size n : Nat} {new : List AV} {cx : Value} (hv : srcCells P h tx x size = some (n, new)) (hx : conc ρ x = some cx) (hs : Sim ρ h w) :
    ∃ news, concs ρ new = some news ∧ Src P size tx cx n news w ∧ new.all AV.one = true := by
  unfold srcCells at hv
  split at hv
  · rename_i e b o z len cap hu
    obtain ⟨pl, hb, hle, rfl⟩ := conc_sl hx
    split at hv
    · rename_i h0
      cases hv
      subst h0
      exact ⟨[], rfl, Src.ofSlice w hu _ 0 _ [] (by simp) (fun j u hj => by simp at hj) (fun u hu => by cases hu), rfl⟩
    · rename_i h0
      split at hv
      · rename_i ty cs wr hg
        split at hv
        · rename_i hc
          cases hv
          obtain ⟨c, fz, xs, hcc, he, hl, h1, hxs, hi, hf⟩ := hs.cells hb hg
          have hxl := concs_length _ _ hxs
          have hnews := concs_take (n * size) _ _ (concs_drop o _ _ hxs)
          refine ⟨_, hnews, Src.ofSlice w hu _ n _ _ (by simp; omega) (fun j u hj => ?_) (concs_one _ _ hnews ?_), ?_⟩
          · rw [slAt_pos (by omega), conc_sl_sp hx hb (by omega), addr_add, cell_of hcc]
            rw [List.getElem?_take] at hj
            split at hj
            · rw [List.getElem?_drop] at hj
              rw [Nat.add_assoc]; exact hi _ _ hj
            · cases hj
          all_goals exact List.all_eq_true.2 fun x hx => List.all_eq_true.1 h1 x (List.mem_of_mem_drop (List.mem_of_mem_take hx))
        · cases hv
      · cases hv
  · rename_i e hu
    cases hv
    obtain rfl : cx = .slice none 0 0 := by simpa [conc] using hx.symm
    exact ⟨[], rfl, Src.ofNil w hu 0, rfl⟩
  · rename_i s hu
    split at hv
    · rename_i h1
      cases hv
      subst h1
      rw [conc_str hx]
      have hsrc := Src.ofString (P := P) w hu ⟨s.toArray⟩
      have e1 : (⟨s.toArray⟩ : ByteArray).size = s.length := by simp [ByteArray.size]
      have e2 : byteCells ⟨s.toArray⟩ = s.map fun b => Value.int .u8 b.toNat := by simp [byteCells]
      rw [e1, e2] at hsrc
      exact ⟨_, concs_bytes s, hsrc, by simp [byteAV, AV.one]⟩
    · cases hv
  · cases hv

/-- A new row for what has grown. -/
def agrow (h : AHeap) (e : TypeId) (size bytes zl g : Nat) (all : List AV) (need : Nat) : Option (AV × AHeap) :=
  if need * bytes ≤ 140737488355328 ∧ need ≤ 9223372036854775807 ∧ zl = size ∧ 0 < size then some (.sl h.next 0 0 need (.op size need), h.new (.cells e all (some g))) else none

def aappend (P : Program) (h : AHeap) (ts : List TypeId) (args : List AV) : Option (AV × AHeap) :=
  match ts, args with
  | [t, tx], [s, x] =>
    match P.underlying t with
    | some (.slice e) =>
      match tsz P e, tbytes P e, tzero P e with
      | some size, some bytes, some z =>
        match srcCells P h tx x size with
        | some (n, new) =>
          match s with
          | .nilsl => if n = 0 then some (.nilsl, h) else agrow h e size bytes z.cells.length 0 new n
          | .sl b o z' len cap =>
            if n = 0 then some (.sl b o z' len cap, h) else
            match h.get b with
            | .cells ty cs wr =>
              if ty ≠ e then none else
              match cap with
              | .at_ c =>
                if len + n ≤ c then
                  match wr with
                  | some f => if f ≤ o + len * size ∧ o + (len + n) * size ≤ cs.length then some (.sl b o z' (len + n) (.at_ c), h.set b (.cells ty (splice cs (o + len * size) new) (some f))) else none
                  | none => none
                else if o + len * size ≤ cs.length then agrow h e size bytes z.cells.length 0 ((cs.drop o).take (len * size) ++ new) (len + n) else none
              | .op s' lb =>
                match wr with
                | some f =>
                  if f ≤ o + len * size ∧ s' = size ∧ 0 < size then
                    if o + (len + n) * size ≤ cs.length then some (.sl b o z' (len + n) (.op size (Nat.max lb (len + n))), h.set b (.cells ty (splice cs (o + len * size) new) (some f)))
                    else if o + len * size = cs.length ∧ (len + n) * bytes ≤ 140737488355328 ∧ len + n ≤ 9223372036854775807 ∧ z.cells.length = size ∧ (o = 0 ∨ e ≠ bty) then
                      some (.sl h.next 0 0 (len + n) (.op size (len + n)), (h.set b .dead).new (.cells ty (cs.drop o ++ new) (some (f - o))))
                    else none
                  else none
                | none => none
            | _ => none
          | _ => none
        | none => none
      | _, _, _ => none
    | _ => none
  | _, _ => none

theorem nextslicecap_le (need old : Nat) (h : old < need) : Builtin.nextslicecap need old ≤ 2 * need := by
  unfold Builtin.nextslicecap
  split
  · omega
  · split
    · omega
    · have key : ∀ r c, c ≤ 2 * need → Builtin.growBy need r c ≤ 2 * need ∨ True := fun _ _ _ => .inr trivial
      have g : ∀ r c, 256 ≤ c → c < need → Builtin.growBy need r c ≤ 2 * need := by
        intro r
        induction r with
        | zero => intro c _ hc; simp [Builtin.growBy]; omega
        | succ r ih =>
          intro c h256 hc
          simp only [Builtin.growBy]
          rw [if_neg (by omega)]
          by_cases h2 : c + (c + 768) / 4 < need
          · exact ih _ (by omega) h2
          · have : ∀ r, Builtin.growBy need r (c + (c + 768) / 4) = c + (c + 768) / 4 := by
              intro r
              cases r with
              | zero => rfl
              | succ r => simp only [Builtin.growBy]; rw [if_pos (by omega)]
            rw [this]
            omega
      exact g 4 old (by omega) h

theorem agrow_sound {P : Program} {ρ : Rho} {h h' : AHeap} {w : World} {e t tx : TypeId} {ty : TypeId} {size bytes zl g n len : Nat} {olds new : List AV} {v : AV} {z : AV} {base : Option Addr} {cap : Nat} {cx : Value} {couls cnews : List Value}
    (hv : agrow h e size bytes zl g (olds ++ new) (len + n) = some (v, h')) (hu : P.underlying t = some (.slice e)) (hn : tsz P e = some size) (hb : tbytes P e = some bytes) (hz : tzero P e = some z) (hzl : zl = z.cells.length)
    (ho : concs ρ olds = some couls) (hol : couls.length = len * size) (hnw : concs ρ new = some cnews) (hsrc : Src P size tx cx n cnews w) (h1 : (olds ++ new).all AV.one = true) (hcap : cap < len + n)
    (hold : (Builtin.firstCells size len (.slice base len cap)).run P w.drew = .ok couls.toArray w.drew) (hs : Sim ρ h w) :
    ∃ c w' ρ', (Builtin.append_ #[t, tx] ty #[.slice base len cap, cx]).run P w = .ok c w' ∧ conc ρ' v = some c ∧ Step ρ h w ρ' h' w' := by
  unfold agrow at hv
  split at hv
  · rename_i hc
    obtain ⟨c1, c2, c3, c4⟩ := hc
    simp only [Option.some.injEq, Prod.mk.injEq] at hv
    obtain ⟨rfl, rfl⟩ := hv
    obtain ⟨cz, hcz, ⟨i, hi, hiz⟩, _⟩ := tzero_sound (ρ := ρ) hz
    have hin : i.size = size := by simpa [tsz, hi] using hn
    have hib : i.bytes = bytes := by simpa [tbytes, hi] using hb
    have hzsz : cz.cells.size = size := by have := concs_length _ _ (conc_cells hcz); simp at this; omega
    have hfit : Builtin.nextslicecap (len + n) cap * i.bytes ≤ 281474976710656 := by
      have := Nat.mul_le_mul_right bytes (nextslicecap_le (len + n) cap hcap)
      rw [hib]
      have e : 2 * (len + n) * bytes = 2 * ((len + n) * bytes) := by rw [Nat.mul_assoc]
      omega
    have hrun := run_append_grow_src (P := P) w t tx ty e i cz hu hi hiz base len cap couls (by rw [hin]; exact hold) cx n cnews (by rw [hin]; exact hsrc) hcap (by omega) hfit
    obtain ⟨K, hK⟩ : ∃ K, K = grownCap w (len + n) cap e := ⟨_, rfl⟩
    have hKge : len + n ≤ K := by rw [hK]; exact grownCap_ge w _ _ _
    rw [← hK] at hrun
    have hs' : Sim ρ h w.drew := hs.of_heap rfl
    have hallc := concs_append _ _ _ _ ho hnw
    have hlen : (couls ++ cnews).length = (len + n) * size := by rw [List.length_append, hol, hsrc.newsLen, Nat.add_mul]
    have hsz : ((couls ++ cnews).toArray ++ Builtin.zeroCells cz.cells (K - (len + n))).size = K * size := by
      simp only [Array.size_append, List.size_toArray, hlen, size_zeroCells, hzsz]
      rw [← Nat.add_mul]; congr 1; omega
    have hfr := hs.fresh
    refine ⟨_, _, _, hrun, ?_, (Step.draw hs (w.drawn + 1)).trans (Step.alloc (w := w.drew) hs' _ _ (K * size) ?_)⟩
    · have e1 : slCap ⟨w.drew.heap.size, 0, K * size, none⟩ 0 (.op size (len + n)) = K := by simp only [slCap]; rw [Nat.add_zero, Nat.sub_zero, Nat.mul_div_cancel _ c4]
      refine (conc_sl_mk (upd_same _ _ _) (show len + n ≤ slCap ⟨w.drew.heap.size, 0, K * size, none⟩ 0 (.op size (len + n)) by rw [e1]; exact hKge) (fun _ => rfl) (by rw [e1]; exact hKge)).trans ?_
      rw [e1]
      simp only [slAt, cond_eq_ite, ite_self, Nat.add_zero]
      rfl
    · refine ⟨_, (0, 0), couls ++ cnews, heap_push_new _, hsz.symm, ?_, h1, concs_mono (Ext.upd _ hfr) _ _ hallc, fun i x hi => ?_, fun f _ => ⟨by simp, fun _ => rfl⟩⟩
      · have := concs_length _ _ hallc
        rw [hsz]; simp only [Nat.zero_add]; rw [← this, hlen]; exact Nat.mul_le_mul_right _ hKge
      · simp only [Nat.zero_add]
        rw [Array.getElem?_append]
        have hlt := (List.getElem?_eq_some_iff.1 hi).1
        rw [if_pos (by simpa using hlt)]
        simpa using hi
  · cases hv

theorem setCells_eq {P : Program} {w w' : World} {k o : Nat} {vs : List Value} (hc : ∀ j, j < vs.length → (w.cell? ⟨k, o + j, none⟩).isSome = true) (hf : ∀ j, j < vs.length → w.frozen? ⟨k, o + j, none⟩ = false) (h1 : ∀ v ∈ vs, v.oneCell' = true)
    (h : (storeCells ⟨k, o, none⟩ vs).run P w = .ok () w') : w.setCells k o vs = w' := by
  have := run_storeCells_cells (P := P) k o vs 0 w (by simpa using hc) (by simpa using hf) h1
  rw [h] at this
  simpa using this.symm

theorem frozen_of {w : World} {k : Nat} {c : Array Value} {ty : TypeId} {fz : Nat × Nat} (h : w.heap[k]? = some (.cells c ty fz)) {i : Nat} (hi : fz.2 ≤ i) : w.frozen? ⟨k, i, none⟩ = false := by
  obtain ⟨lo, hi'⟩ := fz
  simp only [World.frozen?, h, Bool.and_eq_false_iff, decide_eq_false_iff_not]
  right
  simp only at hi
  omega

theorem all_take {l : List AV} (h : l.all AV.one = true) (n : Nat) : (l.take n).all AV.one = true := List.all_eq_true.2 fun x hx => List.all_eq_true.1 h x (List.mem_of_mem_take hx)
theorem all_drop {l : List AV} (h : l.all AV.one = true) (n : Nat) : (l.drop n).all AV.one = true := List.all_eq_true.2 fun x hx => List.all_eq_true.1 h x (List.mem_of_mem_drop hx)
theorem all_append {l m : List AV} (h : l.all AV.one = true) (k : m.all AV.one = true) : (l ++ m).all AV.one = true := by rw [List.all_append, h, k]; rfl

/-- An append where there is room. -/
theorem room_sound {P : Program} {ρ : Rho} {h : AHeap} {w : World} {t tx ty e : TypeId} {size n b o z len f : Nat} {cap : Cap} {cs new : List AV} {tyb : TypeId} {pl : Place} {cx : Value} {cnews : List Value}
    (hs : Sim ρ h w) (hb : ρ b = some pl) (hg : h.get b = .cells tyb cs (some f)) (hu : P.underlying t = some (.slice e)) (hn : tsz P e = some size) (hnw : concs ρ new = some cnews) (hsrc : Src P size tx cx n cnews w) (h1 : new.all AV.one = true)
    (hf : f ≤ o + len * size) (hl : o + (len + n) * size ≤ cs.length) (hroom : len + n ≤ slCap pl o cap) (hpos : 0 < n) (hsp : pl.spot = none) :
    ∃ c w', (Builtin.append_ #[t, tx] ty #[.slice (some ⟨pl.blk, pl.off + slAt pl o z cap, pl.spot⟩) len (slCap pl o cap), cx]).run P w = .ok c w' ∧ c = .slice (some ⟨pl.blk, pl.off + o, none⟩) (len + n) (slCap pl o cap) ∧
      Step ρ h w ρ (h.set b (.cells tyb (splice cs (o + len * size) new) (some f))) w' := by
  obtain ⟨c, fz, xs, hcc, he, hlc, hone, hxs, hi, hfz⟩ := hs.cells hb hg
  have hnl := concs_length _ _ hnw
  have hnl2 := hsrc.newsLen
  have hmul : (len + n) * size = len * size + n * size := Nat.add_mul _ _ _
  obtain ⟨w', hr, hst⟩ := hs.store (P := P) hb hg hf (vs := new) (by omega) hnw h1
  obtain ⟨i, hii, his⟩ : ∃ i, P.info? e = some i ∧ i.size = size := by
    unfold tsz at hn
    cases hi : P.info? e with
    | none => simp [hi] at hn
    | some i => simp [hi] at hn; exact ⟨i, rfl, hn⟩
  have hAt : slAt pl o z cap = o := slAt_pos (by omega)
  rw [hAt, hsp]
  have hcell : ∀ j, j < cnews.length → (w.cell? ⟨pl.blk, pl.off + o + len * i.size + j, none⟩).isSome = true := fun j hj => by
    rw [cell_of hcc, his]
    rw [Array.getElem?_eq_getElem (by omega)]
    rfl
  have hfro : ∀ j, j < cnews.length → w.frozen? ⟨pl.blk, pl.off + o + len * i.size + j, none⟩ = false := fun j hj =>
    frozen_of hcc (by have := (hfz f rfl).1; rw [his]; omega)
  have hrun := run_append_room_src (P := P) w t tx ty e i hu hii pl.blk (pl.off + o) len (slCap pl o cap) cx n cnews (by rw [his]; exact hsrc) hroom hcell hfro
  rw [setCells_eq (P := P) (w' := w') hcell hfro (concs_one _ _ hnw h1) (by rw [his, Nat.add_assoc]; exact hr)] at hrun
  exact ⟨_, w', hrun, rfl, hst⟩

theorem aappend_sound {P : Program} {ρ : Rho} {h h' : AHeap} {w : World} {ts : List TypeId} {ty : TypeId} {args : List AV} {cargs : List Value} {v : AV} (hv : aappend P h ts args = some (v, h')) (ha : concs ρ args = some cargs) (hs : Sim ρ h w) :
    ∃ c w' ρ', (Builtin.append_ ts.toArray ty cargs.toArray).run P w = .ok c w' ∧ conc ρ' v = some c ∧ Step ρ h w ρ' h' w' := by
  unfold aappend at hv
  split at hv
  case h_2 => cases hv
  rename_i t tx s x
  obtain ⟨cs_, cr, hcs, hcr, rfl⟩ := concs_cons ha
  obtain ⟨cx, cr2, hcx, hcr2, rfl⟩ := concs_cons hcr
  simp [concs] at hcr2; subst hcr2
  split at hv
  case h_2 => cases hv
  rename_i e hu
  split at hv
  case h_2 => cases hv
  rename_i size bytes z hn hb hz
  split at hv
  case h_2 => cases hv
  rename_i n new hsc
  obtain ⟨cnews, hnw, hsrc, h1⟩ := srcCells_sound hsc hcx hs
  obtain ⟨i, hii, his⟩ : ∃ i, P.info? e = some i ∧ i.size = size := by
    unfold tsz at hn
    cases hi : P.info? e with
    | none => simp [hi] at hn
    | some i => simp [hi] at hn; exact ⟨i, rfl, hn⟩
  have hnl := concs_length _ _ hnw
  have hnl2 := hsrc.newsLen
  split at hv
  · -- nil
    obtain rfl : cs_ = .slice none 0 0 := by simpa [conc] using hcs.symm
    split at hv
    · rename_i h0
      cases hv
      subst h0
      refine ⟨.slice none 0 0, w, ρ, ?_, rfl, Step.refl hs⟩
      have hc0 : cnews = [] := List.length_eq_zero_iff.1 (by simpa using hnl2)
      have hcl := hsrc.cells
      rcases hsrc.kind with ⟨e', hk⟩ | hk <;> simp [Builtin.append_, run_underlying hu, run_underlying hk, sizeOf, typeInfo, hii, hsrc.len, his, hcl]
    · rename_i h0
      have := agrow_sound (P := P) (ty := ty) (t := t) (tx := tx) (olds := []) (new := new) (len := 0) (n := n) (base := none) (cap := 0) (couls := []) (by simpa using hv) hu hn hb hz rfl rfl (by simp) hnw hsrc (by simpa using h1) (by omega)
        (by exact run_firstCells_none w.drew size 0 0 0) hs
      simpa using this
  · -- a slice
    rename_i b o z' len cap
    obtain ⟨pl, hbp, hle, hcs'⟩ := conc_sl hcs
    have hlb := conc_sl_lb hcs hbp
    have hsp := conc_sl_sp hcs hbp
    subst hcs'
    split at hv
    · rename_i h0
      cases hv
      subst h0
      have hc0 : cnews = [] := List.length_eq_zero_iff.1 (by simpa using hnl2)
      subst hc0
      refine ⟨_, w, ρ, ?_, hcs, Step.refl hs⟩
      have hcl := hsrc.cells
      rcases hsrc.kind with ⟨e', hk⟩ | hk <;> simp [Builtin.append_, run_underlying hu, run_underlying hk, sizeOf, typeInfo, hii, hsrc.len, his, hcl, hle, storeCells]
    · rename_i h0
      split at hv
      case h_2 => cases hv
      rename_i tyb cs wr hg
      obtain ⟨c, fz, xs, hcc, he, hlc, hone, hxs, hi, hfz⟩ := hs.cells hbp hg
      have hxl := concs_length _ _ hxs
      split at hv
      · cases hv
      · rename_i hty
        have hty : tyb = e := by simpa using hty
        have hmul : (len + n) * size = len * size + n * size := Nat.add_mul _ _ _
        have holds : ∀ m, o + m ≤ cs.length → ∀ j u, ((xs.drop o).take m)[j]? = some u → w.drew.cell? ((⟨pl.blk, pl.off + o, none⟩ : Addr).add j) = some u := fun m hm j u hj => by
          rw [addr_add]
          show w.cell? _ = _
          rw [cell_of hcc]
          rw [List.getElem?_take] at hj
          split at hj
          · rw [List.getElem?_drop] at hj
            rw [Nat.add_assoc]; exact hi _ _ hj
          · cases hj
        have hold : o + len * size ≤ cs.length → (Builtin.firstCells size len (.slice (some ⟨pl.blk, pl.off + slAt pl o z' cap, pl.spot⟩) len (slCap pl o cap))).run P w.drew = .ok ((xs.drop o).take (len * size)).toArray w.drew := fun hm => by
          by_cases hl0 : len = 0
          · subst hl0
            exact run_firstCells_some w.drew size 0 _ 0 _ _ (by simp) (fun j u hj => by simp at hj)
          · rw [slAt_pos (by omega), hsp (by omega)]
            exact run_firstCells_some w.drew size len _ len _ _ (by simp; omega) (holds _ hm)
        split at hv
        · -- a known capacity
          rename_i c'
          split at hv
          · rename_i hroom
            split at hv
            · rename_i f
              split at hv
              · rename_i hc
                cases hv
                obtain ⟨c2, w', hr, hcv, hst⟩ := room_sound (P := P) (ty := ty) (z := z') (cap := .at_ c') hs hbp hg hu hn hnw hsrc h1 hc.1 hc.2 hroom (by omega) (hsp (show c' ≠ 0 from by have : len + n ≤ c' := hroom; omega))
                refine ⟨c2, w', ρ, hr, ?_, hst⟩
                have hsp0 : pl.spot = none := hsp (show c' ≠ 0 from by have : len + n ≤ c' := hroom; omega)
                rw [conc_sl_mk hbp hroom (fun _ => hsp0), hcv, slAt_pos (pl := pl) (o := o) (z := z') (cap := .at_ c') (show c' ≠ 0 by omega), hsp0]
              · cases hv
            · cases hv
          · rename_i hroom
            split at hv
            · rename_i hm
              exact agrow_sound (P := P) (ty := ty) (t := t) (tx := tx) hv hu hn hb hz rfl (concs_take _ _ _ (concs_drop o _ _ hxs)) (by simp; omega) hnw hsrc (all_append (all_take (all_drop hone _) _) h1) (by simp only [slCap]; omega) (hold hm) hs
            · cases hv
        · -- open
          rename_i s' lb
          split at hv
          · rename_i f
            split at hv
            · rename_i hc
              obtain ⟨hc1, hc2, g5⟩ := hc
              subst hc2
              split at hv
              · rename_i hfit
                cases hv
                have hroom : len + n ≤ slCap pl o (.op s' lb) := by
                  simp only [slCap]
                  rw [Nat.le_div_iff_mul_le g5]; omega
                obtain ⟨c2, w', hr, hcv, hst⟩ := room_sound (P := P) (ty := ty) (z := z') (cap := .op s' lb) hs hbp hg hu hn hnw hsrc h1 hc1 hfit hroom (by omega) (hsp (by omega))
                refine ⟨c2, w', ρ, hr, ?_, hst⟩
                rw [hcv]
                have e1 : slCap pl o (.op s' (Nat.max lb (len + n))) = slCap pl o (.op s' lb) := rfl
                rw [conc_sl_mk (cap := .op s' (Nat.max lb (len + n))) hbp (by rw [e1]; exact hroom) (fun _ => hsp (by omega)) (Nat.max_le.2 ⟨hlb, hroom⟩), slAt_pos (by rw [e1]; omega), e1, hsp (by omega)]
              · rename_i hnfit
                split at hv
                · rename_i hcc2
                  obtain ⟨g1, g2, g3, g4, g5'⟩ := hcc2
                  cases hv
                  by_cases hroom : len + n ≤ slCap pl o (.op s' lb)
                  · -- there is room in the world's block
                    have hAt : slAt pl o z' (.op s' lb) = o := slAt_pos (by omega)
                    have hend : pl.off + o + (len + n) * s' ≤ c.size := by
                      simp only [slCap] at hroom
                      rw [Nat.le_div_iff_mul_le g5] at hroom
                      have : 0 < (len + n) * s' := Nat.mul_pos (by omega) g5
                      omega
                    have hcell : ∀ j, j < cnews.length → (w.cell? ⟨pl.blk, pl.off + o + len * i.size + j, none⟩).isSome = true := fun j hj => by
                      rw [cell_of hcc, his, Array.getElem?_eq_getElem (by omega)]; rfl
                    have hfro : ∀ j, j < cnews.length → w.frozen? ⟨pl.blk, pl.off + o + len * i.size + j, none⟩ = false := fun j hj =>
                      frozen_of hcc (by have := (hfz f rfl).1; rw [his]; omega)
                    have hrun := run_append_room_src (P := P) w t tx ty e i hu hii pl.blk (pl.off + o) len (slCap pl o (.op s' lb)) cx n cnews (by rw [his]; exact hsrc) hroom hcell hfro
                    have hst := run_storeCells_atF P pl.blk (pl.off + (o + len * s')) tyb fz cnews 0 c w hcc (by have := (hfz f rfl).1; omega) (by omega) (concs_one _ _ hnw h1)
                    simp only [Nat.add_zero] at hst
                    rw [setCells_eq (P := P) hcell hfro (concs_one _ _ hnw h1) (by rw [his, Nat.add_assoc]; exact hst)] at hrun
                    rw [hAt, hsp (by omega)]
                    have hfr := hs.fresh
                    have hheap := setRow_heap w pl.blk c (c.toList.take (pl.off + (o + len * s')) ++ cnews ++ c.toList.drop (pl.off + (o + len * s') + cnews.length)).toArray tyb fz hcc
                    refine ⟨_, _, _, hrun, ?_, Step.move hs hbp (by rw [hg]; rfl) _ ⟨pl.blk, pl.off + o, pl.endc, none⟩ rfl (by simp [World.setRow]) rfl rfl rfl (fun k hk => setRow_other w pl.blk k _ hk) ?_⟩
                    · refine (conc_sl_mk (upd_same _ _ _) (show len + n ≤ slCap ⟨pl.blk, pl.off + o, pl.endc, none⟩ 0 (.op s' (len + n)) from hroom) (fun _ => rfl) hroom).trans ?_
                      simp only [slAt, cond_eq_ite, ite_self, Nat.add_zero]
                      rfl
                    · have hall := concs_append _ _ _ _ (concs_drop o _ _ hxs) hnw
                      refine ⟨_, fz, _, hheap, ?_, ?_, all_append (all_drop hone _) h1, concs_mono (Ext.upd _ hfr) _ _ hall, ?_, ?_⟩
                      · rw [he]; simp; omega
                      · simp; omega
                      · intro j u hj
                        simp only [List.getElem?_toArray]
                        rw [List.getElem?_append] at hj
                        rw [List.getElem?_append, List.getElem?_append]
                        simp only [List.length_append, List.length_take, Array.length_toList, List.length_drop] at hj ⊢
                        have e1 : min (pl.off + (o + len * s')) c.size = pl.off + (o + len * s') := by omega
                        rw [e1]
                        by_cases hA : j < xs.length - o
                        · rw [if_pos hA] at hj
                          rw [if_pos (by omega), if_pos (by omega), List.getElem?_take, if_pos (by omega), Array.getElem?_toList]
                          rw [List.getElem?_drop] at hj
                          rw [Nat.add_assoc]; exact hi _ _ hj
                        · rw [if_neg hA] at hj
                          have hjl := (List.getElem?_eq_some_iff.1 hj).1
                          rw [if_pos (by omega), if_neg (by omega), show pl.off + o + j - (pl.off + (o + len * s')) = j - (xs.length - o) by omega]
                          exact hj
                      · intro f' hf'
                        cases hf'
                        have := (hfz f rfl).1
                        refine ⟨show fz.2 ≤ pl.off + o + (f - o) by omega, fun hb => ?_⟩
                        have h0 := (hfz f rfl).2 hb
                        rcases g5' with e0 | e0
                        · show pl.off + o = 0; omega
                        · exact absurd (hty.symm.trans hb) e0
                  · -- a new row
                    have htk : cs.drop o = (cs.drop o).take (len * s') := by rw [List.take_of_length_le]; simp; omega
                    have hgrow : agrow (h.set b .dead) e s' bytes z.cells.length (f - o) ((cs.drop o).take (len * s') ++ new) (len + n) = some (.sl h.next 0 0 (len + n) (.op s' (len + n)), (h.set b .dead).new (.cells e ((cs.drop o).take (len * s') ++ new) (some (f - o)))) := by
                      unfold agrow; rw [if_pos ⟨g2, g3, g4, g5⟩]; rfl
                    have hk := Step.kill hs (b := b)
                    obtain ⟨c2, w', ρ', hr, hcv, hst⟩ := agrow_sound (P := P) (ty := ty) (t := t) (tx := tx) hgrow hu hn hb hz rfl (concs_take _ _ _ (concs_drop o _ _ hxs)) (by simp; omega) hnw hsrc (all_append (all_take (all_drop hone _) _) h1) (by omega) (hold (by omega)) hk.sim
                    rw [← htk, ← hty] at hst
                    exact ⟨c2, w', ρ', hr, hcv, hk.trans hst⟩
                · cases hv
            · cases hv
          · cases hv
  · cases hv

end Go.Eng
/- The engine, part 10: copy, clear, calls: one operation. -/
namespace Go.Eng

theorem srcFirst {P : Program} {ρ : Rho} {h : AHeap} {w : World} {tx : TypeId} {x : AV} {size n : Nat} {new : List AV} {cx : Value} {news : List Value} (hv : srcCells P h tx x size = some (n, new)) (hx : conc ρ x = some cx) (hs : Sim ρ h w)
    (hnw : concs ρ new = some news) (m : Nat) (hm : m ≤ n) : (Builtin.firstCells size m cx).run P w = .ok (news.take (m * size)).toArray w := by
  unfold srcCells at hv
  split at hv
  · rename_i e b o z len cap hu
    obtain ⟨pl, hb, hle, rfl⟩ := conc_sl hx
    split at hv
    · rename_i h0
      cases hv
      obtain rfl : m = 0 := by omega
      exact run_firstCells_some w size 0 _ _ _ _ (by simp) (fun j u hj => by simp at hj)
    · rename_i h0
      split at hv
      · rename_i ty cs wr hg
        split at hv
        · rename_i hc
          cases hv
          obtain ⟨c, fz, xs, hcc, he, hl, h1, hxs, hi, hf⟩ := hs.cells hb hg
          have hxl := concs_length _ _ hxs
          have hnews := concs_take (n * size) _ _ (concs_drop o _ _ hxs)
          rw [hnews] at hnw
          cases hnw
          have hmn : m * size ≤ n * size := Nat.mul_le_mul_right _ hm
          refine run_firstCells_some w size m _ _ _ _ (by simp; omega) (fun j u hj => ?_)
          rw [slAt_pos (by omega), conc_sl_sp hx hb (by omega), addr_add, cell_of hcc]
          rw [List.getElem?_take] at hj
          split at hj
          · rw [List.getElem?_take] at hj
            split at hj
            · rw [List.getElem?_drop] at hj
              rw [Nat.add_assoc]; exact hi _ _ hj
            · cases hj
          · cases hj
        · cases hv
      · cases hv
  · cases hv
    obtain rfl : cx = .slice none 0 0 := by simpa [conc] using hx.symm
    obtain rfl : m = 0 := by omega
    simp only [concs, Option.some.injEq] at hnw
    subst hnw
    simpa using run_firstCells_none (P := P) w size 0 0 0
  · rename_i s hu
    split at hv
    · rename_i h1
      cases hv
      subst h1
      rw [conc_str hx]
      rw [concs_bytes] at hnw
      cases hnw
      simp only [Builtin.firstCells, Sem.run_pure, Nat.mul_one]
      congr 1
      apply Array.ext'
      simp [← List.map_take]
    · cases hv
  · cases hv

def acopy (P : Program) (h : AHeap) (ts : List TypeId) (args : List AV) : Option (AV × AHeap) :=
  match ts, args with
  | [t, tx], [d, x] =>
    match P.underlying t with
    | some (.slice e) =>
      match tsz P e with
      | some size =>
        match srcCells P h tx x size with
        | some (sn, new) =>
          match d with
          | .nilsl => some (.int .i64 0, h)
          | .sl b o _ len _ =>
            if Nat.min sn len = 0 then some (.int .i64 0, h) else
            match h.get b with
            | .cells ty cs (some f) =>
              if f ≤ o ∧ o + (new.take (Nat.min sn len * size)).length ≤ cs.length then some (.int .i64 (Nat.min sn len), h.set b (.cells ty (splice cs o (new.take (Nat.min sn len * size))) (some f))) else none
            | _ => none
          | _ => none
        | none => none
      | none => none
    | _ => none
  | _, _ => none
theorem acopy_sound {P : Program} {ρ : Rho} {h h' : AHeap} {w : World} {ts : List TypeId} {ty : TypeId} {args : List AV} {cargs : List Value} {v : AV} (hv : acopy P h ts args = some (v, h')) (ha : concs ρ args = some cargs) (hs : Sim ρ h w) :
    ∃ c w' ρ', (Builtin.copy_ ts.toArray ty cargs.toArray).run P w = .ok c w' ∧ conc ρ' v = some c ∧ Step ρ h w ρ' h' w' := by
  unfold acopy at hv
  split at hv
  case h_2 => cases hv
  rename_i t tx d x
  obtain ⟨cd, cr, hcd, hcr, rfl⟩ := concs_cons ha
  obtain ⟨cx, cr2, hcx, hcr2, rfl⟩ := concs_cons hcr
  simp [concs] at hcr2; subst hcr2
  split at hv
  case h_2 => cases hv
  rename_i e hu
  split at hv
  case h_2 => cases hv
  rename_i size hn
  split at hv
  case h_2 => cases hv
  rename_i sn new hsc
  obtain ⟨cnews, hnw, hsrc, h1⟩ := srcCells_sound hsc hcx hs
  split at hv
  · obtain rfl : cd = .slice none 0 0 := by simpa [conc] using hcd.symm
    cases hv
    have hf := srcFirst hsc hcx hs hnw 0 (Nat.zero_le _)
    have e0 : Nat.min sn 0 = 0 := Nat.min_zero _
    refine ⟨_, w, ρ, ?_, rfl, Step.refl hs⟩
    simp only [Builtin.copy_, List.getElem?_toArray, List.getElem?_cons_zero, List.getElem?_cons_succ, Sem.run_bind, run_underlying hu, hsrc.len, Result.andThen_ok, run_sizeOf_tsz hn, e0, hf]
    simp [goInt]
  · rename_i b o z' len cap
    obtain ⟨pl, hbp, hle, rfl⟩ := conc_sl hcd
    have hf := srcFirst hsc hcx hs hnw (Nat.min sn len) (Nat.min_le_left _ _)
    split at hv
    · rename_i h0
      cases hv
      refine ⟨_, w, ρ, ?_, rfl, Step.refl hs⟩
      rw [h0] at hf
      simp only [Builtin.copy_, List.getElem?_toArray, List.getElem?_cons_zero, List.getElem?_cons_succ, Sem.run_bind, run_underlying hu, hsrc.len, Result.andThen_ok, run_sizeOf_tsz hn, h0, hf]
      simp [goInt, storeCells]
    · rename_i h0
      split at hv
      case h_2 => cases hv
      rename_i tyb cs f hg
      split at hv
      · rename_i hc
        cases hv
        have hlen0 : slCap pl o cap ≠ 0 := by
          have : Nat.min sn len ≤ len := Nat.min_le_right _ _
          omega
        obtain ⟨w', hr, hst⟩ := hs.store (P := P) hbp hg hc.1 hc.2 (concs_take _ _ _ hnw) (all_take h1 _)
        refine ⟨_, w', ρ, ?_, rfl, hst⟩
        simp only [Builtin.copy_, List.getElem?_toArray, List.getElem?_cons_zero, List.getElem?_cons_succ, Sem.run_bind, run_underlying hu, hsrc.len, Result.andThen_ok, run_sizeOf_tsz hn, hf, slAt_pos hlen0, conc_sl_sp hcd hbp hlen0, hr]
        simp [goInt]
      · cases hv
  · cases hv

def aclear (P : Program) (h : AHeap) (ts : List TypeId) (args : List AV) : Option (AV × AHeap) :=
  match ts, args with
  | [t], [d] =>
    match P.underlying t, d with
    | some (.slice _), .nilsl => some (.tuple [], h)
    | some (.slice e), .sl b o _ len _ =>
      if len = 0 then some (.tuple [], h) else
      match tzero P e, h.get b with
      | some z, .cells ty cs (some f) =>
        if f ≤ o ∧ o + (reps len z.cells).length ≤ cs.length ∧ z.cells.all AV.one = true then some (.tuple [], h.set b (.cells ty (splice cs o (reps len z.cells)) (some f))) else none
      | _, _ => none
    | _, _ => none
  | _, _ => none
theorem aclear_sound {P : Program} {ρ : Rho} {h h' : AHeap} {w : World} {ts : List TypeId} {ty : TypeId} {args : List AV} {cargs : List Value} {v : AV} (hv : aclear P h ts args = some (v, h')) (ha : concs ρ args = some cargs) (hs : Sim ρ h w) :
    ∃ c w' ρ', (Builtin.clear_ ts.toArray ty cargs.toArray).run P w = .ok c w' ∧ conc ρ' v = some c ∧ Step ρ h w ρ' h' w' := by
  unfold aclear at hv
  split at hv
  case h_2 => cases hv
  rename_i t d
  obtain ⟨cd, cr, hcd, hcr, rfl⟩ := concs_cons ha
  simp [concs] at hcr; subst hcr
  split at hv
  · rename_i e hu
    obtain rfl : cd = .slice none 0 0 := by simpa [conc] using hcd.symm
    cases hv
    exact ⟨_, w, ρ, by simp [Builtin.clear_, run_underlying hu], rfl, Step.refl hs⟩
  · rename_i e b o z' len cap hu
    obtain ⟨pl, hbp, hle, rfl⟩ := conc_sl hcd
    split at hv
    · rename_i h0
      cases hv
      subst h0
      exact ⟨_, w, ρ, by simp [Builtin.clear_, run_underlying hu], rfl, Step.refl hs⟩
    · rename_i h0
      split at hv
      case h_2 => cases hv
      rename_i z tyb cs f hz hg
      split at hv
      · rename_i hc
        cases hv
        obtain ⟨cz, hcz, _, hrz⟩ := tzero_sound (ρ := ρ) hz
        have hreps := concs_reps (conc_cells hcz) len
        obtain ⟨w', hr, hst⟩ := hs.store (P := P) hbp hg hc.1 hc.2.1 hreps (reps_one hc.2.2 len)
        refine ⟨.tuple #[], w', ρ, ?_, rfl, hst⟩
        have e1 : (Builtin.zeroCells cz.cells len).toList = (List.replicate len cz.cells.toList).flatten := by
          have := madeCells_flat cz.cells len
          unfold madeCells at this
          simp only [Builtin.zeroCells, this]
        obtain ⟨len', rfl⟩ : ∃ k, len = k + 1 := ⟨len - 1, by omega⟩
        simp only [Builtin.clear_, List.getElem?_toArray, List.getElem?_cons_zero, Sem.run_bind, run_underlying hu, Result.andThen_ok, hrz, e1, slAt_pos (show slCap pl o cap ≠ 0 by omega), conc_sl_sp hcd hbp (show slCap pl o cap ≠ 0 by omega), hr, Sem.run_pure]
      · cases hv
  · cases hv

end Go.Eng
