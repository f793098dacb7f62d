/- The engine, extra operations, part 1: maps. -/
import Derived.Test.YtcjgagkkanokjacGreatDoorE9
import Derived.Lib.UnsafeStr
import Derived.Lib.Bytealg
import Derived.Lib.MakeNoZero
import Derived.Lib.Builder
import Derived.Laws.BytesString
import Derived.Laws.IdiomStrings
namespace Go.Eng
/-- Equality of keys: strings, integers, bools. -/
def keyEq : TypeDesc → AV → AV → Option Bool
  | .int _, .int k a, .int k' b => if k = k' then some (a == b) else none
  | .string, .str a, .str b => some (a == b)
  | .bool, .bool a, .bool b => some (a == b)
  | _, _, _ => none
def keyD : TypeDesc → Bool
  | .int _ | .string | .bool => true
  | _ => false
def afind (d : TypeDesc) (k : AV) : List (AV × AV × Nat) → Nat → Option (Option (Nat × AV))
  | [], _ => some none
  | (k', v, _) :: r, i => match keyEq d k k' with
    | some true => some (some (i, v))
    | some false => afind d k r (i + 1)
    | none => none
theorem ba_beq (x y : List UInt8) : ((⟨x.toArray⟩ : ByteArray) == ⟨y.toArray⟩) = (x == y) := by
  show (x.toArray == y.toArray) = _
  simp
theorem keyEq_sound {ρ : Rho} {d : TypeDesc} {a b : AV} {ca cb : Value} {t : Bool} (h : keyEq d a b = some t) (ha : conc ρ a = some ca) (hb : conc ρ b = some cb) : Instr.sameNow d ca cb = some t := by
  unfold keyEq at h
  split at h
  · rw [conc_int ha, conc_int hb]; exact h
  · rw [conc_str ha, conc_str hb]
    simp only [Instr.sameNow, ba_beq]; exact h
  · rw [conc_bool ha, conc_bool hb]; exact h
  · cases h
theorem afind_sound {ρ : Rho} {d : TypeDesc} {k : AV} {ck : Value} (hk : conc ρ k = some ck) : ∀ (es : List (AV × AV × Nat)) (ces : List MapEntry) (i : Nat) (r : Option (Nat × AV)), entRel ρ es ces → afind d k es i = some r →
    ∃ r', Instr.findNow d ck ces i = some r' ∧ (match r, r' with | none, none => True | some (j, v), some (j', c) => j = j' ∧ i ≤ j ∧ conc ρ v = some c ∧ ∃ e, ces[j - i]? = some e ∧ e.val = c ∧ Instr.sameNow d ck e.key = some true | _, _ => False)
  | [], [], i, r, _, h => by simp only [afind, Option.some.injEq] at h; subst h; exact ⟨none, rfl, trivial⟩
  | (k', v, b) :: es, e :: ces, i, r, ⟨h1, h2, h3, h4⟩, h => by
    simp only [afind] at h
    split at h
    · rename_i hq
      cases h
      refine ⟨some (i, e.val), ?_, rfl, Nat.le_refl _, h2, e, by simp, rfl, keyEq_sound hq hk h1⟩
      simp only [Instr.findNow, keyEq_sound hq hk h1]
    · rename_i hq
      obtain ⟨r', hr, hrel⟩ := afind_sound hk es ces (i + 1) r h4 h
      refine ⟨r', by simp only [Instr.findNow, keyEq_sound hq hk h1]; exact hr, ?_⟩
      match r, r', hrel with
      | none, none, _ => trivial
      | some (j, v), some (j', c), ⟨a1, a2, a3, e2, a4, a5⟩ =>
        refine ⟨a1, by omega, a3, e2, ?_, a5⟩
        rw [show j - i = (j - (i + 1)) + 1 by omega]
        simpa using a4
    · cases h
  | [], _ :: _, _, _, h, _ => h.elim
  | _ :: _, [], _, _, h, _ => h.elim
theorem run_checkKey {P : Program} {t : TypeId} {d : TypeDesc} {b : Bool} {v : Value} (hu : P.underlying t = some d) (hd : keyD d = true) (w : World) : (Instr.checkKey b 10000 t v).run P w = .ok () w := by
  cases d <;> simp [keyD] at hd <;> (unfold Instr.checkKey; simp [run_underlying hu])
theorem run_findKey {P : Program} {t : TypeId} {d : TypeDesc} {k : Value} {es : List MapEntry} {r : Option (Nat × Value)} (hu : P.underlying t = some d) (h : Instr.findNow d k es 0 = some r) (w : World) : (Instr.findKey t k es).run P w = .ok r w := by
  simp [Instr.findKey, run_underlying hu, h]
/-- The one entry of a key, in any order. -/
def aRO (d : TypeDesc) (k : AV) (es : List (AV × AV)) : Option (Option AV) :=
  if es.all (fun x => (keyEq d k x.1).isSome) then
    match es.filter (fun x => keyEq d k x.1 == some true) with
    | [] => some none
    | [(_, v)] => some (some v)
    | _ => none
  else none
theorem aRO_perm {d : TypeDesc} {k : AV} {es es' : List (AV × AV)} (h : es.Perm es') : aRO d k es = aRO d k es' := by
  unfold aRO
  have h1 : es.all (fun x => (keyEq d k x.1).isSome) = es'.all (fun x => (keyEq d k x.1).isSome) := by
    rw [Bool.eq_iff_iff, List.all_eq_true, List.all_eq_true]
    exact ⟨fun g x hx => g x (h.mem_iff.2 hx), fun g x hx => g x (h.mem_iff.1 hx)⟩
  rw [h1]
  have hf := h.filter (fun x => keyEq d k x.1 == some true)
  generalize es.filter (fun x => keyEq d k x.1 == some true) = f at hf
  generalize es'.filter (fun x => keyEq d k x.1 == some true) = f' at hf
  congr 1
  match f, f', hf with
  | [], f', hf => rw [List.nil_perm.1 hf]
  | [x], f', hf => rw [List.singleton_perm.1 hf]
  | x :: y :: r, f', hf =>
    have hl := hf.length_eq
    match f', hl with
    | x' :: y' :: r', _ => rfl
theorem aRO_find {d : TypeDesc} {k : AV} : ∀ (es : List (AV × AV × Nat)) (i : Nat) (r : Option AV), aRO d k (kvs es) = some r → ∃ r', afind d k es i = some r' ∧ r'.map (·.2) = r
  | [], i, r, h => by
    simp [aRO, kvs] at h
    exact ⟨none, rfl, by simp [h]⟩
  | (k', v, b) :: es, i, r, h => by
    have ih := aRO_find (d := d) (k := k) es (i + 1) r
    have e0 : kvs ((k', v, b) :: es) = (k', v) :: kvs es := rfl
    rw [e0] at h
    unfold aRO at h ih
    simp only [List.all_cons, List.filter_cons] at h
    split at h
    case isFalse => cases h
    rename_i hall
    simp only [Bool.and_eq_true] at hall
    rw [if_pos hall.2] at ih
    simp only [afind]
    cases hq : keyEq d k k' with
    | none => simp [hq] at hall
    | some t =>
      cases t with
      | true =>
        rw [if_pos (by simp [hq])] at h
        refine ⟨some (i, v), rfl, ?_⟩
        split at h
        · rename_i he; simp at he
        · rename_i he
          simp only [List.cons.injEq, Prod.mk.injEq] at he
          obtain ⟨⟨_, rfl⟩, _⟩ := he
          cases h; rfl
        · cases h
      | false =>
        rw [if_neg (by simp [hq])] at h
        exact ih h
def mfind (d : TypeDesc) (k : AV) (h : AHeap) (x : AV) : Option (Option AV) :=
  match x with
  | .nilmap => some none
  | .map b => match h.get b with
    | .map es _ true => match afind d k es 0 with
      | some r => some (r.map (·.2))
      | none => none
    | .map es _ false => aRO d k (kvs es)
    | _ => none
  | _ => none
def alookup (P : Program) (h : AHeap) (t : TypeId) (x k : AV) (ok : Bool) : Option AV :=
  match P.underlying t with
  | some (.map kt et) =>
    match P.underlying kt, tzero P et with
    | some d, some z =>
      if keyD d then
        match mfind d k h x with
        | some (some v) => some (if ok then .tuple [v, .bool true] else v)
        | some none => some (if ok then .tuple [z, .bool false] else z)
        | none => none
      else none
    | _, _ => none
  | _ => none
theorem conc_map {ρ : Rho} {b : Nat} {c : Value} (h : conc ρ (.map b) = some c) : ∃ pl, ρ b = some pl ∧ c = .map (some pl.blk) := by
  simp only [conc] at h
  cases hb : ρ b with
  | none => simp [hb] at h
  | some pl => simp [hb] at h; exact ⟨pl, rfl, h.symm⟩
theorem Sim.mapAt {ρ : Rho} {h : AHeap} {w : World} (hs : Sim ρ h w) {b : Nat} {pl : Place} (hb : ρ b = some pl) {es : List (AV × AV × Nat)} {cl : Nat} {wr : Bool} (hg : h.get b = .map es cl wr) : ∃ ces cl', w.heap[pl.blk]? = some (.map ces cl') ∧ mapRel ρ es cl ces.toList cl' wr := by
  obtain ⟨pl', h1, h2⟩ := hs.obj b (by rw [hg]; rfl)
  rw [hb] at h1; cases h1
  rw [hg] at h2
  exact h2
def FindRel (ρ : Rho) : Option AV → Option (Nat × Value) → Prop
  | none, none => True
  | some v, some (_, c) => conc ρ v = some c
  | _, _ => False
theorem mfind_sound {ρ : Rho} {h : AHeap} {w : World} {d : TypeDesc} {x k : AV} {cx ck : Value} {r : Option AV} (hm : mfind d k h x = some r) (hx : conc ρ x = some cx) (hk : conc ρ k = some ck) (hs : Sim ρ h w) :
    ∃ ces r', (cx = .map none ∧ ces = #[] ∨ ∃ r cl, cx = .map (some r) ∧ w.heap[r]? = some (.map ces cl)) ∧ Instr.findNow d ck ces.toList 0 = some r' ∧ FindRel ρ r r' := by
  unfold mfind at hm
  split at hm
  · cases hm
    obtain rfl : cx = .map none := by simpa [conc] using hx.symm
    exact ⟨#[], none, .inl ⟨rfl, rfl⟩, rfl, trivial⟩
  · rename_i b
    obtain ⟨pl, hb, rfl⟩ := conc_map hx
    have key : ∀ (es : List (AV × AV × Nat)) (ces : Array MapEntry) (cl : Nat) (r0 : Option (Nat × AV)), w.heap[pl.blk]? = some (.map ces cl) → entRel ρ es ces.toList → afind d k es 0 = some r0 → r0.map (·.2) = r → ∃ ces r', (Value.map (some pl.blk) = .map none ∧ ces = #[] ∨ ∃ r cl, Value.map (some pl.blk) = .map (some r) ∧ w.heap[r]? = some (.map ces cl)) ∧ Instr.findNow d ck ces.toList 0 = some r' ∧ FindRel ρ r r' := by
      intro es ces cl r0 h1 h2 h3 h4
      obtain ⟨r', g1, g2⟩ := afind_sound hk es ces.toList 0 _ h2 h3
      refine ⟨ces, r', .inr ⟨_, _, rfl, h1⟩, g1, ?_⟩
      match r0, r', g2 with
      | none, none, _ => simp at h4; subst h4; trivial
      | some (j, v), some (j', c), ⟨_, _, g3, _⟩ => simp at h4; subst h4; exact g3
    split at hm
    · rename_i es cl hg
      split at hm
      · rename_i r0 hf
        cases hm
        obtain ⟨ces, cl', h1, h2, h3⟩ := hs.mapAt hb hg
        exact key es ces cl' r0 h1 h3 hf rfl
      · cases hm
    · rename_i es cl hg
      obtain ⟨ces, cl', h1, es0, h2, h3⟩ := hs.mapAt hb hg
      rw [← aRO_perm h2] at hm
      obtain ⟨r0, hf, hr⟩ := aRO_find es0 0 r hm
      exact key es0 ces cl' r0 h1 h3 hf hr
    · cases hm
  · cases hm
theorem alookup_sound {P : Program} {ρ : Rho} {h : AHeap} {w : World} {t : TypeId} {x k v : AV} {ok : Bool} {cx ck : Value} (ha : alookup P h t x k ok = some v) (hx : conc ρ x = some cx) (hk : conc ρ k = some ck) (hs : Sim ρ h w) :
    ∃ c, conc ρ v = some c ∧ (Instr.lookup t cx ck ok).run P w = .ok c w := by
  unfold alookup at ha
  split at ha
  case h_2 => cases ha
  rename_i kt et hm
  split at ha
  case h_2 => cases ha
  rename_i d z hd hz
  split at ha
  case isFalse => cases ha
  rename_i hkd
  obtain ⟨cz, hcz, _, hrz⟩ := tzero_sound (ρ := ρ) hz
  split at ha
  · rename_i u hf
    obtain ⟨ces, r', hcx, h1, h2⟩ := mfind_sound hf hx hk hs
    match r', h2 with
    | some (j', c), h3 =>
      simp only [Option.some.injEq] at ha
      subst ha
      refine ⟨if ok then .tuple #[c, .bool true] else c, by cases ok; exact h3; exact conc_tuple2 h3 true, ?_⟩
      rcases hcx with ⟨rfl, rfl⟩ | ⟨r, cl, rfl, hr⟩
      · simp [Instr.findNow] at h1
      · simp [Instr.lookup, run_underlying hm, getObj, Sem.run, hr, Result.andThen, run_checkKey hd hkd, run_findKey hd h1]
  · rename_i hf
    obtain ⟨ces, r', hcx, h1, h2⟩ := mfind_sound hf hx hk hs
    match r', h2 with
    | none, _ =>
      simp only [Option.some.injEq] at ha
      subst ha
      refine ⟨if ok then .tuple #[cz, .bool false] else cz, by cases ok; exact hcz; exact conc_tuple2 hcz false, ?_⟩
      rcases hcx with ⟨rfl, rfl⟩ | ⟨r, cl, rfl, hr⟩
      · simp [Instr.lookup, run_underlying hm, run_checkKey hd hkd, run_findKey hd h1, hrz]
      · simp [Instr.lookup, run_underlying hm, getObj, Sem.run, hr, Result.andThen, run_checkKey hd hkd, run_findKey hd h1, hrz]
  · cases ha
/-! ### writes -/
def amapset (es : List (AV × AV × Nat)) (i : Nat) (k v : AV) : List (AV × AV × Nat) := match es, i with
  | [], _ => []
  | (_, _, b) :: r, 0 => (k, v, b) :: r
  | e :: r, i + 1 => e :: amapset r i k v
def aupdate (P : Program) (h : AHeap) (t : TypeId) (x k v : AV) : Option AHeap :=
  match P.underlying t with
  | some (.map kt _) =>
    match P.underlying kt, x with
    | some d, .map b =>
      if keyD d then
        match h.get b with
        | .map es cl true => match afind d k es 0 with
          | some (some (i, _)) => some (h.set b (.map (amapset es i k v) cl true))
          | some none => (match d, k with
            | .int _, .int _ _ | .string, .str _ | .bool, .bool _ => some (h.set b (.map (es ++ [(k, v, cl)]) (cl + 1) true))
            | _, _ => none)
          | none => none
        | _ => none
      else none
    | _, _ => none
  | _ => none
theorem entRel_set {ρ : Rho} {k v : AV} {ck cv : Value} (hk : conc ρ k = some ck) (hv : conc ρ v = some cv) : ∀ (es : List (AV × AV × Nat)) (ces : List MapEntry) (i : Nat), entRel ρ es ces → entRel ρ (amapset es i k v) (ces.modify i fun e => { e with key := ck, val := cv })
  | [], [], i, _ => by cases i <;> trivial
  | (_, _, b) :: es, e :: ces, 0, ⟨_, _, h3, h4⟩ => ⟨hk, hv, h3, h4⟩
  | (_, _, b) :: es, e :: ces, i + 1, ⟨h1, h2, h3, h4⟩ => ⟨h1, h2, h3, entRel_set hk hv es ces i h4⟩
  | [], _ :: _, _, h => h.elim
  | _ :: _, [], _, h => h.elim
theorem entRel_snoc {ρ : Rho} {k v : AV} {ck cv : Value} {b : Nat} (hk : conc ρ k = some ck) (hv : conc ρ v = some cv) : ∀ (es : List (AV × AV × Nat)) (ces : List MapEntry), entRel ρ es ces → entRel ρ (es ++ [(k, v, b)]) (ces ++ [⟨ck, cv, b⟩])
  | [], [], _ => ⟨hk, hv, rfl, trivial⟩
  | (_, _, _) :: es, e :: ces, ⟨h1, h2, h3, h4⟩ => ⟨h1, h2, h3, entRel_snoc hk hv es ces h4⟩
  | [], _ :: _, h => h.elim
  | _ :: _, [], h => h.elim
theorem ba_eq {a b : ByteArray} (h : (a == b) = true) : a = b := by
  obtain ⟨x⟩ := a
  obtain ⟨y⟩ := b
  have h : (x == y) = true := h
  rw [eq_of_beq h]
theorem sameNow_bits {d : TypeDesc} {a b : Value} (h : Instr.sameNow d a b = some true) : Instr.sameBits 10000 b a = true := by
  unfold Instr.sameNow at h
  split at h
  · split at h
    · rename_i hk; subst hk; simp at h; subst h; simp [Instr.sameBits]
    · cases h
  · simp only [Option.some.injEq] at h
    have := ba_eq h
    subst this
    simp only [Instr.sameBits]; exact h
  · simp at h; subst h; simp [Instr.sameBits]
  · cases h
theorem setBlk_get {w : World} {r : Nat} {O : Obj} (hr : r < w.heap.size) (k : Nat) : ({ w with heap := w.heap.setIfInBounds r O } : World).heap[k]? = if k = r then some O else w.heap[k]? := by
  by_cases e : k = r
  · subst e; simp [hr]
  · rw [if_neg e]; show (w.heap.setIfInBounds r O)[k]? = _; rw [Array.getElem?_setIfInBounds_ne (Ne.symm e)]
theorem Step.setBlk {ρ : Rho} {h : AHeap} {w : World} (hs : Sim ρ h w) {b : Nat} {pl : Place} (hb : ρ b = some pl) (hw : (h.get b).writes = true) (o : AObj) (O : Obj) (hlt : pl.blk < w.heap.size)
    (hr : ∀ w', w'.heap[pl.blk]? = some O → ObjRel ρ o pl w') : Step ρ h w ρ (h.set b o) { w with heap := w.heap.setIfInBounds pl.blk O } :=
  Step.write hs hb hw o (by simp) rfl rfl rfl (fun k hk => by rw [setBlk_get hlt, if_neg hk]) (hr _ (by rw [setBlk_get hlt, if_pos rfl]))
theorem aupdate_sound {P : Program} {ρ : Rho} {h h' : AHeap} {w : World} {t : TypeId} {x k v : AV} {cx ck cv : Value} (ha : aupdate P h t x k v = some h') (hx : conc ρ x = some cx) (hk : conc ρ k = some ck) (hv : conc ρ v = some cv) (hs : Sim ρ h w) :
    ∃ w', (Instr.mapUpdate t cx ck cv).run P w = .ok () w' ∧ Step ρ h w ρ h' w' := by
  unfold aupdate at ha
  split at ha
  case h_2 => cases ha
  rename_i kt et hm
  split at ha
  case h_2 => cases ha
  rename_i d b hd
  split at ha
  case isFalse => cases ha
  rename_i hkd
  split at ha
  case h_2 => cases ha
  rename_i es cl hg
  obtain ⟨pl, hb, rfl⟩ := conc_map hx
  obtain ⟨ces, cl', h1, hcl, h2⟩ := hs.mapAt hb hg
  rw [hcl] at h1
  have hlt := (Array.getElem?_eq_some_iff.1 h1).1
  have hwr : (h.get b).writes = true := by rw [hg]; rfl
  split at ha
  · rename_i i u hf
    cases ha
    obtain ⟨r', g1, g2⟩ := afind_sound hk es ces.toList 0 _ h2 hf
    match r', g2 with
    | some (j', c), ⟨e1, _, _, e, e2, e3, e4⟩ =>
      subst e1
      rw [Nat.sub_zero, Array.getElem?_toList] at e2
      have hkey := sameNow_bits e4
      refine ⟨_, ?_, Step.setBlk hs hb hwr _ (.map (ces.modify i fun e => { e with key := ck, val := cv }) cl) hlt fun w' hw' => ⟨_, _, hw', rfl, by rw [Array.toList_modify]; exact entRel_set hk hv es ces.toList i h2⟩⟩
      simp [Instr.mapUpdate, run_underlying hm, getObj, setObj, Sem.run, h1, Result.andThen, run_checkKey hd hkd, run_findKey hd g1, e2, Instr.keyThatStays, hkey]
  · rename_i hf
    obtain ⟨r', g1, g2⟩ := afind_sound hk es ces.toList 0 _ h2 hf
    match r', g2 with
    | none, _ =>
      have : h' = h.set b (.map (es ++ [(k, v, cl)]) (cl + 1) true) := by
        split at ha <;> first | exact (Option.some.inj ha).symm | (cases ha; done)
      subst this
      refine ⟨_, ?_, Step.setBlk hs hb hwr _ (.map (ces.push { key := ck, val := cv, born := cl }) (cl + 1)) hlt fun w' hw' => ⟨_, _, hw', rfl, by rw [Array.toList_push]; exact entRel_snoc hk hv es ces.toList h2⟩⟩
      simp [Instr.mapUpdate, run_underlying hm, getObj, setObj, Sem.run, h1, Result.andThen, run_checkKey hd hkd, run_findKey hd g1]
  · cases ha
theorem amake_sound {P : Program} {ρ : Rho} {h : AHeap} {w : World} (t : TypeId) (hs : Sim ρ h w) :
    ∃ c w' ρ', (Instr.makeMap t none).run P w = .ok c w' ∧ conc ρ' (.map h.next) = some c ∧ Step ρ h w ρ' (h.new (.map [] 0 true)) w' := by
  refine ⟨.map (some w.heap.size), { w with heap := w.heap.push (.map #[] 0) }, _, by simp [Instr.makeMap, newObj, Sem.run, Result.andThen], ?_, Step.alloc hs (.map [] 0 true) (.map #[] 0) 0 ⟨#[], _, heap_push_new _, rfl, trivial⟩⟩
  simp [conc, upd_same]
end Go.Eng
/- The engine, extra operations, part 2: iteration over strings, assertions, conversions, unsafe. -/
namespace Go.Eng
/-! ### strings, iterated -/
def arange (P : Program) (h : AHeap) (t : TypeId) (x : AV) : Option (AV × AHeap) :=
  match P.underlying t, x with
  | some .string, .str s => some (.ptr h.next 0, h.new (.siter s 0))
  | _, _ => none
theorem arange_sound {P : Program} {ρ : Rho} {h h' : AHeap} {w : World} {t : TypeId} {x v : AV} {cx : Value} (ha : arange P h t x = some (v, h')) (hx : conc ρ x = some cx) (hs : Sim ρ h w) :
    ∃ c w' ρ', (Instr.range t cx).run P w = .ok c w' ∧ conc ρ' v = some c ∧ Step ρ h w ρ' h' w' := by
  unfold arange at ha
  split at ha
  · rename_i s hu
    cases ha
    rw [conc_str hx]
    refine ⟨.pointer (some ⟨w.heap.size, 0, none⟩), { w with heap := w.heap.push (.stringIter ⟨s.toArray⟩ 0) }, _, by simp [Instr.range, run_underlying hu, newObj, Sem.run, Result.andThen], ?_, Step.alloc hs (.siter s 0) (.stringIter ⟨s.toArray⟩ 0) 0 ⟨rfl, heap_push_new _⟩⟩
    simp [conc, upd_same]
  · cases ha
def anext (h : AHeap) (x : AV) (isS : Bool) : Option (AV × AHeap) :=
  match x, isS with
  | .ptr b 0, true =>
    match h.get b with
    | .siter s pos =>
      if pos < s.length then
        some (.tuple [.bool true, .int .i64 pos, .int .i32 (Utf8.decode ⟨s.toArray⟩ pos).1], h.set b (.siter s (pos + (Utf8.decode ⟨s.toArray⟩ pos).2)))
      else some (.tuple [.bool false], h)
    | _ => none
  | _, _ => none
theorem anext_sound {P : Program} {ρ : Rho} {h h' : AHeap} {w : World} {t : TypeId} {x v : AV} {isS : Bool} {cx : Value} (ha : anext h x isS = some (v, h')) (hx : conc ρ x = some cx) (hs : Sim ρ h w) :
    ∃ c w' ρ', (Instr.next cx isS t).run P w = .ok c w' ∧ conc ρ' v = some c ∧ Step ρ h w ρ' h' w' := by
  unfold anext at ha
  split at ha
  case h_2 => cases ha
  rename_i b
  split at ha
  case h_2 => cases ha
  rename_i s pos hg
  obtain ⟨pl, hb, rfl⟩ := conc_ptr hx
  obtain ⟨pl', h1, h2⟩ := hs.obj b (by rw [hg]; rfl)
  rw [hb] at h1; cases h1
  rw [hg] at h2
  obtain ⟨h3, h4⟩ := h2
  have hsz : (ByteArray.mk s.toArray).size = s.length := by simp [ByteArray.size]
  rw [h3]
  split at ha
  · rename_i hlt
    cases ha
    have hlt' : pos < (ByteArray.mk s.toArray).size := by rw [hsz]; exact hlt
    refine ⟨.tuple #[.bool true, goInt pos, .int .i32 (Utf8.decode ⟨s.toArray⟩ pos).1], _, ρ, ?_, rfl, Step.setBlk hs hb (by rw [hg]; rfl) _ (.stringIter ⟨s.toArray⟩ (pos + (Utf8.decode ⟨s.toArray⟩ pos).2)) (Array.getElem?_eq_some_iff.1 h4).1 fun w' hw' => ⟨h3, hw'⟩⟩
    simp [Instr.next, getObj, setObj, Sem.run, h4, hlt', Result.andThen]
  · rename_i hlt
    cases ha
    have hlt' : ¬ pos < (ByteArray.mk s.toArray).size := by rw [hsz]; exact hlt
    exact ⟨.tuple #[.bool false], w, ρ, by simp [Instr.next, getObj, Sem.run, h4, hlt', Result.andThen], rfl, Step.refl hs⟩
end Go.Eng
/- The engine, extra operations, part 3: conversions, unsafe. -/
namespace Go.Eng
def abytes : List AV → Option (List UInt8)
  | [] => some []
  | .int .u8 n :: r => if ((UInt8.ofNat n.toNat).toNat : Int) = n then (match abytes r with | some l => some (UInt8.ofNat n.toNat :: l) | none => none) else none
  | _ => none
theorem abytes_eq : ∀ (cs : List AV) (l : List UInt8), abytes cs = some l → cs = l.map byteAV
  | [], l, h => by simp only [abytes, Option.some.injEq] at h; subst h; rfl
  | a :: r, l, h => by
    cases a with
    | int k n =>
      cases k with
      | u8 =>
        simp only [abytes] at h
        split at h
        · rename_i hn
          split at h
          · rename_i l' hl
            cases h
            rw [abytes_eq r l' hl]
            simp only [List.map_cons, byteAV]
            rw [hn]
          · cases h
        · cases h
      | _ => simp [abytes] at h
    | _ => simp [abytes] at h
/-- The bytes that a slice reads as. -/
def slBytes (h : AHeap) (x : AV) : Option (List UInt8) := match x with
  | .nilsl => some []
  | .sl b o _ len _ => if len = 0 then some [] else match h.get b with
    | .cells _ cs _ => if o + len ≤ cs.length then abytes ((cs.drop o).take len) else none
    | _ => none
  | _ => none
theorem slBytes_sound {ρ : Rho} {h : AHeap} {w : World} {x : AV} {cx : Value} {l : List UInt8} (ha : slBytes h x = some l) (hx : conc ρ x = some cx) (hs : Sim ρ h w) :
    (cx = .slice none 0 0 ∧ l = []) ∨ ∃ a cap, cx = .slice (some a) l.length cap ∧ (∀ j (hj : j < l.length), w.cell? (a.add j) = some (.int .u8 (l[j].toNat : Int))) := by
  unfold slBytes at ha
  split at ha
  · cases ha
    exact .inl ⟨by simpa [conc] using hx.symm, rfl⟩
  · rename_i b o z len cap
    obtain ⟨pl, hb, hle, rfl⟩ := conc_sl hx
    split at ha
    · rename_i h0
      cases ha
      subst h0
      exact .inr ⟨_, _, rfl, fun j hj => by simp at hj⟩
    · rename_i h0
      split at ha
      · rename_i ty cs wr hg
        split at ha
        · rename_i hl
          have he := abytes_eq _ _ ha
          have hll : l.length = len := by have := congrArg List.length he; simp at this; omega
          obtain ⟨c, fz, xs, hcc, _, _, _, hxs, hi, _⟩ := hs.cells hb hg
          have h1 := concs_take len _ _ (concs_drop o _ _ hxs)
          rw [he, concs_bytes] at h1
          have h1 := Option.some.inj h1
          refine .inr ⟨_, _, by rw [hll], fun j hj => ?_⟩
          rw [slAt_pos (by omega), conc_sl_sp hx hb (by omega), addr_add, cell_of hcc]
          have h2 := congrArg (fun l : List Value => l[j]?) h1
          simp only [List.getElem?_map, List.getElem?_take, List.getElem?_drop] at h2
          rw [if_pos (by omega), List.getElem?_eq_getElem hj] at h2
          rw [Nat.add_assoc]
          exact hi _ _ h2.symm
        · cases ha
      · cases ha
  · cases ha
def aconv (P : Program) (h : AHeap) (src dst : TypeId) (x : AV) : Option (AV × AHeap) :=
  match P.underlying src, P.underlying dst, x with
  | some (.slice e), some .string, x => match P.underlying e, slBytes h x with
    | some (.int .u8), some l => some (.str l, h)
    | _, _ => none
  | some .string, some (.slice e), .str s => match P.underlying e with
    | some (.int .u8) => some (.sl h.next 0 0 s.length (.op 1 s.length), h.new (.cells e (s.map byteAV) none))
    | _ => none
  | _, _, _ => none
theorem bytes_one (l : List UInt8) : (l.map byteAV).all AV.one = true := by rw [List.all_eq_true]; intro x hx; obtain ⟨b, _, rfl⟩ := List.mem_map.1 hx; rfl
theorem aconv_sound {P : Program} {ρ : Rho} {h h' : AHeap} {w : World} {src dst : TypeId} {x v : AV} {cx : Value} (ha : aconv P h src dst x = some (v, h')) (hx : conc ρ x = some cx) (hs : Sim ρ h w) :
    ∃ c w' ρ', (convert src dst cx).run P w = .ok c w' ∧ conc ρ' v = some c ∧ Step ρ h w ρ' h' w' := by
  unfold aconv at ha
  split at ha
  · rename_i e hsr hds
    split at ha
    · rename_i l he hl
      cases ha
      rcases slBytes_sound hl hx hs with ⟨rfl, rfl⟩ | ⟨a, cap, rfl, hc⟩
      · refine ⟨.string .empty, w, ρ, ?_, rfl, Step.refl hs⟩
        rw [run_convert_bytes_string w src dst e none 0 0 hsr he hds]
        simp [Conv.bytesToString]
      · exact ⟨_, w, ρ, run_convert_bytes_back w src dst e a cap l hsr he hds hc, rfl, Step.refl hs⟩
    · cases ha
  · rename_i e s hsr hds
    split at ha
    · rename_i he
      cases ha
      rw [conc_str hx]
      have hrun := run_bytes_of_string (P := P) w src dst e ⟨s.toArray⟩ hsr hds he
      obtain ⟨K, hK⟩ : ∃ K, K = grownCap w (ByteArray.mk s.toArray).size 0 e := ⟨_, rfl⟩
      have hsz : (ByteArray.mk s.toArray).size = s.length := by simp [ByteArray.size]
      have hge : s.length ≤ K := by rw [hK, hsz]; exact grownCap_ge w _ _ _
      rw [← hK, hsz] at hrun
      have hrow : ∃ c : Array Value, bytesRow ⟨s.toArray⟩ K = c ∧ c.size = K ∧ ∀ j (hj : j < s.length), c[j]? = some (.int .u8 (s[j].toNat : Nat)) := by
        refine ⟨_, rfl, ?_, fun j hj => ?_⟩
        · simp [bytesRow, hsz]; omega
        · unfold bytesRow; rw [Array.getElem?_append_left (by simpa using hj)]; simp [hj]
      obtain ⟨c, hc, hcs, hcj⟩ := hrow
      rw [hc] at hrun
      refine ⟨_, _, _, hrun, ?_, (Step.draw hs (w.drawn + 1)).trans (Step.alloc (w := w.drew) (hs.of_heap rfl) (.cells e (s.map byteAV) none) (.cells c e (c.size, c.size + 1)) K ⟨c, _, s.map fun b => .int .u8 (b.toNat : Nat), heap_push_new _, hcs.symm, by simp; omega, bytes_one s, concs_bytes s, fun i x hi => ?_, fun f hf => by cases hf⟩)⟩
      · have e1 : slCap ⟨w.drew.heap.size, 0, K, none⟩ 0 (.op 1 s.length) = K := by simp [slCap]
        refine (conc_sl_mk (upd_same _ _ _) (by rw [e1]; exact hge) (fun _ => rfl) (by rw [e1]; exact hge)).trans ?_
        rw [e1]
        simp only [slAt, cond_eq_ite, ite_self, Nat.add_zero]
        rfl
      · simp only [Nat.zero_add]
        obtain ⟨hlt, hx2⟩ := List.getElem?_eq_some_iff.1 hi
        have hlt : i < s.length := by simpa using hlt
        rw [hcj i hlt, ← hx2]
        simp
    · cases ha
  · cases ha
end Go.Eng
