/- The engine, part 2: when an abstract heap stands for a world; new blocks, writes, moved blocks. -/
import Derived.Test.YtcjgagkkanokjaaE1
namespace Go.Eng

def AObj.live : AObj → Bool
  | .dead => false
  | _ => true
theorem AObj.live_of_writes {o : AObj} (h : o.writes = true) : o.live = true := by
  cases o <;> simp_all [AObj.writes, AObj.live]

def entRel (ρ : Rho) : List (AV × AV × Nat) → List MapEntry → Prop
  | [], [] => True
  | (k, v, b) :: r, e :: es => conc ρ k = some e.key ∧ conc ρ v = some e.val ∧ e.born = b ∧ entRel ρ r es
  | _, _ => False
theorem entRel_mono {ρ ρ' : Rho} (h : Ext ρ ρ') : ∀ (l : List (AV × AV × Nat)) (es : List MapEntry), entRel ρ l es → entRel ρ' l es
  | [], [], _ => trivial
  | (_, _, _) :: r, _ :: es, ⟨a, b, c, d⟩ => ⟨conc_mono h _ _ a, conc_mono h _ _ b, c, entRel_mono h r es d⟩
  | [], _ :: _, h => h.elim
  | _ :: _, [], h => h.elim

/-- What an abstract block says of the world's block at its place. -/
def ObjRel (ρ : Rho) (o : AObj) (pl : Place) (w : World) : Prop :=
  match o with
  | .dead => True
  | .cells ty cs wr => ∃ c fz xs, w.heap[pl.blk]? = some (.cells c ty fz) ∧ pl.endc = c.size ∧ pl.off + cs.length ≤ c.size ∧
      cs.all AV.one = true ∧ concs ρ cs = some xs ∧ (∀ i x, xs[i]? = some x → c[pl.off + i]? = some x) ∧ (∀ f, wr = some f → fz.2 ≤ pl.off + f)
  | .map es clock _ => ∃ es', w.heap[pl.blk]? = some (.map es' clock) ∧ entRel ρ es es'.toList

theorem ObjRel.lt {ρ : Rho} {o : AObj} {pl : Place} {w : World} (h : ObjRel ρ o pl w) (hl : o.live = true) : pl.blk < w.heap.size := by
  cases o with
  | dead => simp [AObj.live] at hl
  | cells ty cs wr => obtain ⟨c, fz, xs, hc, _⟩ := h; exact (Array.getElem?_eq_some_iff.1 hc).1
  | map es clock wr => obtain ⟨es', hc, _⟩ := h; exact (Array.getElem?_eq_some_iff.1 hc).1
theorem ObjRel.mono {ρ ρ' : Rho} {o : AObj} {pl : Place} {w w' : World} (h : ObjRel ρ o pl w) (he : Ext ρ ρ') (hw : w'.heap[pl.blk]? = w.heap[pl.blk]?) : ObjRel ρ' o pl w' := by
  cases o with
  | dead => trivial
  | cells ty cs wr =>
    obtain ⟨c, fz, xs, hc, h1, h2, h4, h5, h6⟩ := h
    exact ⟨c, fz, xs, hw.trans hc, h1, h2, h4, concs_mono he cs xs h5, h6⟩
  | map es clock wr =>
    obtain ⟨es', hc, h1⟩ := h
    exact ⟨es', hw.trans hc, entRel_mono he es _ h1⟩

structure Sim (ρ : Rho) (h : AHeap) (w : World) : Prop where
  rng : ∀ b pl, ρ b = some pl → b < h.next
  obj : ∀ b, (h.get b).live = true → ∃ pl, ρ b = some pl ∧ ObjRel ρ (h.get b) pl w
  sep : ∀ b b' pl pl', (h.get b).writes = true → ρ b = some pl → b ≠ b' → (h.get b').live = true → ρ b' = some pl' → pl.blk ≠ pl'.blk
  glob : ∀ g, g < h.glob → ∃ e, ρ g = some ⟨g, 0, e⟩
  gl : h.glob ≤ h.next

def Own (ρ : Rho) (h : AHeap) (k : Nat) : Prop := ∃ b pl, (h.get b).writes = true ∧ ρ b = some pl ∧ pl.blk = k

/-- A block of the world that an abstract block that lives stands on. -/
def Use (ρ : Rho) (h : AHeap) (k : Nat) : Prop := ∃ b pl, (h.get b).live = true ∧ ρ b = some pl ∧ pl.blk = k
theorem Own.use {ρ : Rho} {h : AHeap} {k : Nat} (ho : Own ρ h k) : Use ρ h k := let ⟨b, pl, h1, h2, h3⟩ := ho; ⟨b, pl, AObj.live_of_writes h1, h2, h3⟩

structure Keep (ρ : Rho) (h : AHeap) (w : World) (ρ' : Rho) (h' : AHeap) (w' : World) : Prop where
  size : w.heap.size ≤ w'.heap.size
  os : w'.os = w.os
  tape : w'.tape = w.tape
  output : w'.output = w.output
  old : ∀ k, k < w.heap.size → ¬ Own ρ h k → w'.heap[k]? = w.heap[k]? ∧ ¬ Own ρ' h' k
  use : ∀ k, k < w.heap.size → ¬ Use ρ h k → ¬ Use ρ' h' k

structure Step (ρ : Rho) (h : AHeap) (w : World) (ρ' : Rho) (h' : AHeap) (w' : World) : Prop where
  ext : Ext ρ ρ'
  sim : Sim ρ' h' w'
  keep : Keep ρ h w ρ' h' w'
  nx : h.next ≤ h'.next
  gb : h'.glob = h.glob

theorem Keep.refl (ρ : Rho) (h : AHeap) (w : World) : Keep ρ h w ρ h w := ⟨Nat.le_refl _, rfl, rfl, rfl, fun _ _ hn => ⟨rfl, hn⟩, fun _ _ hn => hn⟩
theorem Keep.trans {ρ ρ' ρ'' : Rho} {h h' h'' : AHeap} {w w' w'' : World} (a : Keep ρ h w ρ' h' w') (b : Keep ρ' h' w' ρ'' h'' w'') : Keep ρ h w ρ'' h'' w'' :=
  ⟨Nat.le_trans a.size b.size, b.os.trans a.os, b.tape.trans a.tape, b.output.trans a.output, fun k hk hn =>
    let ⟨h1, h2⟩ := a.old k hk hn
    let ⟨h3, h4⟩ := b.old k (Nat.lt_of_lt_of_le hk a.size) h2
    ⟨h3.trans h1, h4⟩, fun k hk hn => b.use k (Nat.lt_of_lt_of_le hk a.size) (a.use k hk hn)⟩
theorem Step.refl {ρ : Rho} {h : AHeap} {w : World} (hs : Sim ρ h w) : Step ρ h w ρ h w := ⟨Ext.refl ρ, hs, Keep.refl ρ h w, Nat.le_refl _, rfl⟩
theorem Step.trans {ρ ρ' ρ'' : Rho} {h h' h'' : AHeap} {w w' w'' : World} (a : Step ρ h w ρ' h' w') (b : Step ρ' h' w' ρ'' h'' w'') : Step ρ h w ρ'' h'' w'' :=
  ⟨a.ext.trans b.ext, b.sim, a.keep.trans b.keep, Nat.le_trans a.nx b.nx, b.gb.trans a.gb⟩

theorem Sim.of_heap {ρ : Rho} {h : AHeap} {w w' : World} (hs : Sim ρ h w) (hw : w'.heap = w.heap) : Sim ρ h w' :=
  ⟨hs.rng, fun b hl => let ⟨pl, h1, h2⟩ := hs.obj b hl; ⟨pl, h1, h2.mono (Ext.refl ρ) (by rw [hw])⟩, hs.sep, hs.glob, hs.gl⟩
/-- A draw. -/
theorem Step.draw {ρ : Rho} {h : AHeap} {w : World} (hs : Sim ρ h w) (n : Nat) : Step ρ h w ρ h { w with drawn := n } :=
  ⟨Ext.refl ρ, hs.of_heap rfl, ⟨Nat.le_refl _, rfl, rfl, rfl, fun _ _ hn => ⟨rfl, hn⟩, fun _ _ hn => hn⟩, Nat.le_refl _, rfl⟩

def upd (ρ : Rho) (b : Nat) (pl : Place) : Rho := fun x => if x = b then some pl else ρ x
theorem upd_same (ρ : Rho) (b : Nat) (pl : Place) : upd ρ b pl b = some pl := by simp [upd]
theorem upd_other (ρ : Rho) (b : Nat) (pl : Place) {c : Nat} (h : c ≠ b) : upd ρ b pl c = ρ c := by simp [upd, h]
theorem Ext.upd {ρ : Rho} {b : Nat} (pl : Place) (h : ρ b = none) : Ext ρ (upd ρ b pl) := fun c p hc => by
  by_cases e : c = b
  · subst e; rw [h] at hc; cases hc
  · rw [upd_other ρ b pl e]; exact hc
theorem Sim.fresh {ρ : Rho} {h : AHeap} {w : World} (hs : Sim ρ h w) : ρ h.next = none := by
  cases e : ρ h.next with
  | none => rfl
  | some pl => exact absurd (hs.rng _ _ e) (Nat.lt_irrefl _)
theorem Sim.dead {ρ : Rho} {h : AHeap} {w : World} (hs : Sim ρ h w) {b : Nat} (hb : h.next ≤ b) : (h.get b).live = false := by
  cases e : (h.get b).live with
  | false => rfl
  | true =>
    obtain ⟨pl, h1, _⟩ := hs.obj b e
    exact absurd (hs.rng _ _ h1) (by omega)

/-- A new block of the world that no abstract block stands for yet: an abstract block for it. ('pl.blk' may be a block that is already there: a pending one.) -/
theorem Sim.add {ρ : Rho} {h : AHeap} {w : World} (hs : Sim ρ h w) (o : AObj) (pl : Place) (hr : ObjRel (upd ρ h.next pl) o pl w)
    (hfree : ¬ Use ρ h pl.blk) : Sim (upd ρ h.next pl) (h.new o) w := by
  have hn := hs.fresh
  have he : Ext ρ (upd ρ h.next pl) := Ext.upd pl hn
  refine ⟨?_, ?_, ?_, ?_, ?_⟩
  · intro b p hb
    by_cases e : b = h.next
    · subst e; simp
    · rw [upd_other _ _ _ e] at hb
      have := hs.rng b p hb
      simp; omega
  · intro b hl
    rw [AHeap.get_new] at hl ⊢
    by_cases e : h.next = b
    · subst e
      simp only [if_true] at hl ⊢
      exact ⟨pl, upd_same _ _ _, hr⟩
    · rw [if_neg e] at hl ⊢
      obtain ⟨p, h1, h2⟩ := hs.obj b hl
      exact ⟨p, he b p h1, h2.mono he rfl⟩
  · intro b b' p p' hw hb hne hl hb'
    rw [AHeap.get_new] at hw hl
    by_cases e : h.next = b
    · subst e
      simp only [if_true] at hw
      rw [upd_same] at hb; cases hb
      rw [if_neg hne] at hl
      rw [upd_other _ _ _ (Ne.symm hne)] at hb'
      exact fun hk => hfree ⟨b', p', hl, hb', hk.symm⟩
    · rw [if_neg e] at hw
      rw [upd_other _ _ _ (Ne.symm e)] at hb
      by_cases e' : h.next = b'
      · subst e'
        rw [upd_same] at hb'; cases hb'
        exact fun hk => hfree ⟨b, p, AObj.live_of_writes hw, hb, hk⟩
      · rw [if_neg e'] at hl
        rw [upd_other _ _ _ (Ne.symm e')] at hb'
        exact hs.sep b b' p p' hw hb hne hl hb'
  · intro g hg
    obtain ⟨e, hgs⟩ := hs.glob g hg
    exact ⟨e, he _ _ hgs⟩
  · have := hs.gl; simp; omega

theorem heap_push {w : World} (O : Obj) (k : Nat) (hk : k < w.heap.size) : ({ w with heap := w.heap.push O } : World).heap[k]? = w.heap[k]? := by
  show (w.heap.push O)[k]? = _
  rw [Array.getElem?_push, if_neg (by omega)]
theorem heap_push_new {w : World} (O : Obj) : ({ w with heap := w.heap.push O } : World).heap[w.heap.size]? = some O := by
  show (w.heap.push O)[w.heap.size]? = _
  simp

theorem Own.lt {ρ : Rho} {h : AHeap} {w : World} (hs : Sim ρ h w) {k : Nat} (ho : Own ρ h k) : k < w.heap.size := by
  obtain ⟨b, pl, hw, hb, rfl⟩ := ho
  obtain ⟨pl', h1, h2⟩ := hs.obj b (AObj.live_of_writes hw)
  rw [hb] at h1; cases h1
  exact h2.lt (AObj.live_of_writes hw)

/-- A new block. -/
theorem Step.alloc {ρ : Rho} {h : AHeap} {w : World} (hs : Sim ρ h w) (o : AObj) (O : Obj) (endc : Nat)
    (hr : ObjRel (upd ρ h.next ⟨w.heap.size, 0, endc⟩) o ⟨w.heap.size, 0, endc⟩ { w with heap := w.heap.push O }) :
    Step ρ h w (upd ρ h.next ⟨w.heap.size, 0, endc⟩) (h.new o) { w with heap := w.heap.push O } := by
  have hn := hs.fresh
  have he : Ext ρ (upd ρ h.next ⟨w.heap.size, 0, endc⟩) := Ext.upd _ hn
  have hlt : ∀ b p, (h.get b).live = true → ρ b = some p → p.blk < w.heap.size := fun b p hl hb => by
    obtain ⟨p', h1, h2⟩ := hs.obj b hl
    rw [hb] at h1; cases h1
    exact h2.lt hl
  have hs' : Sim ρ h { w with heap := w.heap.push O } :=
    ⟨hs.rng, fun b hl => let ⟨p, h1, h2⟩ := hs.obj b hl; ⟨p, h1, h2.mono (Ext.refl ρ) (heap_push O _ (h2.lt hl))⟩, hs.sep, hs.glob, hs.gl⟩
  refine ⟨he, hs'.add o _ hr (fun ⟨b, p, hl, hb, hk⟩ => absurd hk (Nat.ne_of_lt (hlt b p hl hb))), ⟨by simp, rfl, rfl, rfl, fun k hk hno => ⟨heap_push O k hk, ?_⟩, fun k hk hno => ?_⟩, by simp, rfl⟩
  · rintro ⟨b, p, hw, hb, hk'⟩
    rw [AHeap.get_new] at hw
    by_cases e : h.next = b
    · subst e
      rw [upd_same] at hb; cases hb
      subst hk'
      exact absurd hk (Nat.lt_irrefl _)
    · rw [if_neg e] at hw
      rw [upd_other _ _ _ (Ne.symm e)] at hb
      exact hno ⟨b, p, hw, hb, hk'⟩
  · rintro ⟨b, p, hw, hb, hk'⟩
    rw [AHeap.get_new] at hw
    by_cases e : h.next = b
    · subst e
      rw [upd_same] at hb; cases hb
      subst hk'
      exact absurd hk (Nat.lt_irrefl _)
    · rw [if_neg e] at hw
      rw [upd_other _ _ _ (Ne.symm e)] at hb
      exact hno ⟨b, p, hw, hb, hk'⟩

/-- A write into one owned block. -/
theorem Step.write {ρ : Rho} {h : AHeap} {w w' : World} (hs : Sim ρ h w) {b : Nat} {pl : Place} (hb : ρ b = some pl) (hw : (h.get b).writes = true) (o : AObj) 
    (hsz : w'.heap.size = w.heap.size) (hos : w'.os = w.os) (htp : w'.tape = w.tape) (hout : w'.output = w.output)
    (hoth : ∀ k, k ≠ pl.blk → w'.heap[k]? = w.heap[k]?) (hr : ObjRel ρ o pl w') : Step ρ h w ρ (h.set b o) w' := by
  refine ⟨Ext.refl ρ, ⟨hs.rng, ?_, ?_, hs.glob, hs.gl⟩, ⟨by omega, hos, htp, hout, fun k hk hno => ⟨hoth k (fun e => hno ⟨b, pl, hw, hb, e.symm⟩), ?_⟩, fun k hk hno => ?_⟩, Nat.le_refl _, rfl⟩
  · intro c hl
    rw [AHeap.get_set] at hl ⊢
    by_cases e : b = c
    · subst e; simp only [if_true]; exact ⟨pl, hb, hr⟩
    · rw [if_neg e] at hl ⊢
      obtain ⟨p, h1, h2⟩ := hs.obj c hl
      exact ⟨p, h1, h2.mono (Ext.refl ρ) (hoth _ (Ne.symm (hs.sep b c pl p hw hb e hl h1)))⟩
  · intro c c' p p' hwc hc hne hl hc'
    rw [AHeap.get_set] at hwc hl
    by_cases e : b = c
    · subst e
      rw [if_neg hne] at hl
      exact hs.sep b c' p p' hw hc hne hl hc'
    · rw [if_neg e] at hwc
      by_cases e' : b = c'
      · subst e'
        exact hs.sep c b p p' hwc hc hne (AObj.live_of_writes hw) hc'
      · rw [if_neg e'] at hl
        exact hs.sep c c' p p' hwc hc hne hl hc'
  · rintro ⟨c, p, hwc, hc, hk'⟩
    rw [AHeap.get_set] at hwc
    by_cases e : b = c
    · subst e; exact hno ⟨b, p, hw, hc, hk'⟩
    · rw [if_neg e] at hwc; exact hno ⟨c, p, hwc, hc, hk'⟩
  · rintro ⟨c, p, hwc, hc, hk'⟩
    rw [AHeap.get_set] at hwc
    by_cases e : b = c
    · subst e; exact hno ⟨b, p, AObj.live_of_writes hw, hc, hk'⟩
    · rw [if_neg e] at hwc; exact hno ⟨c, p, hwc, hc, hk'⟩

/-- A block is forgotten. -/
theorem Step.kill {ρ : Rho} {h : AHeap} {w : World} (hs : Sim ρ h w) {b : Nat} : Step ρ h w ρ (h.set b .dead) w := by
  refine ⟨Ext.refl ρ, ⟨hs.rng, ?_, ?_, hs.glob, hs.gl⟩, ⟨Nat.le_refl _, rfl, rfl, rfl, fun k _ hno => ⟨rfl, ?_⟩, fun k _ hno => ?_⟩, Nat.le_refl _, rfl⟩
  · intro c hl
    rw [AHeap.get_set] at hl ⊢
    by_cases e : b = c
    · subst e; simp [AObj.live] at hl
    · rw [if_neg e] at hl ⊢
      exact hs.obj c hl
  · intro c c' p p' hwc hc hne hl hc'
    rw [AHeap.get_set] at hwc hl
    by_cases e : b = c
    · subst e; simp [AObj.writes] at hwc
    · rw [if_neg e] at hwc
      by_cases e' : b = c'
      · subst e'; simp [AObj.live] at hl
      · rw [if_neg e'] at hl
        exact hs.sep c c' p p' hwc hc hne hl hc'
  · rintro ⟨c, p, hwc, hc, hk⟩
    rw [AHeap.get_set] at hwc
    by_cases e : b = c
    · subst e; simp [AObj.writes] at hwc
    · rw [if_neg e] at hwc
      exact hno ⟨c, p, hwc, hc, hk⟩
  · rintro ⟨c, p, hwc, hc, hk⟩
    rw [AHeap.get_set] at hwc
    by_cases e : b = c
    · subst e; simp [AObj.live] at hwc
    · rw [if_neg e] at hwc
      exact hno ⟨c, p, hwc, hc, hk⟩

/-- An owned block goes on under a new name, from another first cell on. -/
theorem Step.move {ρ : Rho} {h : AHeap} {w w' : World} (hs : Sim ρ h w) {b : Nat} {pl : Place} (hb : ρ b = some pl) (hw : (h.get b).writes = true) (o : AObj) (pl' : Place) (hpl : pl'.blk = pl.blk)
    (hsz : w'.heap.size = w.heap.size) (hos : w'.os = w.os) (htp : w'.tape = w.tape) (hout : w'.output = w.output)
    (hoth : ∀ k, k ≠ pl.blk → w'.heap[k]? = w.heap[k]?) (hr : ObjRel (upd ρ h.next pl') o pl' w') : Step ρ h w (upd ρ h.next pl') ((h.set b .dead).new o) w' := by
  have hn := hs.fresh
  have he : Ext ρ (upd ρ h.next pl') := Ext.upd _ hn
  have hbn : b < h.next := hs.rng b pl hb
  -- the heap without b
  have hs1 : Sim ρ (h.set b .dead) w' := by
    refine ⟨hs.rng, ?_, ?_, hs.glob, hs.gl⟩
    · intro c hl
      rw [AHeap.get_set] at hl ⊢
      by_cases e : b = c
      · subst e; simp [AObj.live] at hl
      · rw [if_neg e] at hl ⊢
        obtain ⟨p, h1, h2⟩ := hs.obj c hl
        exact ⟨p, h1, h2.mono (Ext.refl ρ) (hoth _ (Ne.symm (hs.sep b c pl p hw hb e hl h1)))⟩
    · intro c c' p p' hwc hc hne hl hc'
      rw [AHeap.get_set] at hwc hl
      by_cases e : b = c
      · subst e; simp [AObj.writes] at hwc
      · rw [if_neg e] at hwc
        by_cases e' : b = c'
        · subst e'; simp [AObj.live] at hl
        · rw [if_neg e'] at hl
          exact hs.sep c c' p p' hwc hc hne hl hc'
  have hfree : ¬ Use ρ (h.set b .dead) pl'.blk := by
    rintro ⟨c, p, hl, hc, hk⟩
    rw [AHeap.get_set] at hl
    by_cases e : b = c
    · subst e; simp [AObj.live] at hl
    · rw [if_neg e] at hl
      exact hs.sep b c pl p hw hb e hl hc (hk.trans hpl).symm
  refine ⟨he, hs1.add o pl' hr hfree, ⟨by omega, hos, htp, hout, fun k hk hno => ⟨hoth k (fun e => hno ⟨b, pl, hw, hb, e.symm⟩), ?_⟩, fun k hk hno => ?_⟩, by simp, rfl⟩
  · rintro ⟨c, p, hwc, hc, hk'⟩
    rw [AHeap.get_new] at hwc
    by_cases e : h.next = c
    · subst e
      simp only [upd_same, Option.some.injEq] at hc
      subst hc
      exact hno ⟨b, pl, hw, hb, hpl.symm.trans hk'⟩
    · rw [AHeap.next_set, if_neg e] at hwc
      rw [upd_other _ _ _ (Ne.symm e)] at hc
      rw [AHeap.get_set] at hwc
      by_cases e' : b = c
      · subst e'; simp [AObj.writes] at hwc
      · rw [if_neg e'] at hwc; exact hno ⟨c, p, hwc, hc, hk'⟩
  · rintro ⟨c, p, hwc, hc, hk'⟩
    rw [AHeap.get_new] at hwc
    by_cases e : h.next = c
    · subst e
      simp only [upd_same, Option.some.injEq] at hc
      subst hc
      exact hno ⟨b, pl, AObj.live_of_writes hw, hb, hpl.symm.trans hk'⟩
    · rw [AHeap.next_set, if_neg e] at hwc
      rw [upd_other _ _ _ (Ne.symm e)] at hc
      rw [AHeap.get_set] at hwc
      by_cases e' : b = c
      · subst e'; simp [AObj.live] at hwc
      · rw [if_neg e'] at hwc; exact hno ⟨c, p, hwc, hc, hk'⟩

end Go.Eng
