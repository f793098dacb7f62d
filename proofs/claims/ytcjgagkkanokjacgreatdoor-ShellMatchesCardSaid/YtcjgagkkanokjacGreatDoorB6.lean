/- Law 41: rows of bools; wild. -/
import Derived.Test.YtcjgagkkanokjacGreatDoorB4
namespace Go.Eng.L41
open Go.Proofs Go.Eng
def rowc (n : Nat) (f : Nat → Bool) : List AV := (List.range n).map fun j => .bool (f j)
@[simp] theorem rowc_len (n : Nat) (f : Nat → Bool) : (rowc n f).length = n := by simp [rowc]
theorem rowc_get {n i : Nat} (f : Nat → Bool) (hi : i < n) : (rowc n f)[i]? = some (.bool (f i)) := by simp [rowc, hi]
theorem rowc_set {n i : Nat} (f : Nat → Bool) (b : Bool) : (rowc n f).set i (.bool b) = rowc n fun j => if j = i then b else f j := by
  apply List.ext_getElem?
  intro k
  rw [List.getElem?_set]
  by_cases hk : k < n
  · rw [rowc_get _ hk, rowc_get _ hk, rowc_len]
    by_cases e : i = k
    · subst e; simp [hk]
    · rw [if_neg e, if_neg (fun x => e x.symm)]
  · simp [rowc, hk]
    intro e; omega
theorem rowc_false (n : Nat) : List.replicate n (AV.bool false) = rowc n fun _ => false := by
  apply List.ext_getElem?
  intro k
  by_cases hk : k < n
  · rw [rowc_get _ hk]; simp [hk]
  · simp [rowc, hk]
@[simp] theorem rowc_one (n : Nat) (f : Nat → Bool) : (rowc n f).all AV.one = true := by simp [rowc, AV.one]
/-- A row of bools that is written. -/
def BRow (h : AHeap) (x : AV) (n : Nat) (f : Nat → Bool) : Prop := ∃ b, x = .sl b 0 0 n (.at_ n) ∧ b < h.next ∧ h.get b = .cells 4 (rowc n f) (some 0)
theorem BRow.pres {h h' : AHeap} {x : AV} {n : Nat} {f : Nat → Bool} (hb : BRow h x n f) (hp : Pres h h') : BRow h' x n f := by
  obtain ⟨b, h1, h2, h3⟩ := hb
  exact ⟨b, h1, Nat.lt_of_lt_of_le h2 hp.1, (hp.2 b h2).trans h3⟩
theorem ia45 (b n i : Nat) (hi : i < n) : pindexAddr Tryz.prog 45 (.sl b 0 0 n (.at_ n)) (.int .i64 (i : Int)) = some (.ptr b i) := by
  simp [pindexAddr, nat?, sl45, sz4, hi]
theorem ia45s (b n i : Nat) (hi : i + 1 < n) : pindexAddr Tryz.prog 45 (.sl b 0 0 n (.at_ n)) (.int .i64 ((i : Int) + 1)) = some (.ptr b (i + 1)) := ia45 b n (i + 1) hi
theorem pms45 (n : Nat) (hn : n ≤ 1000000) : pms Tryz.prog 45 (.int .i64 (n : Int)) (.int .i64 (n : Int)) = some (4, rowc n fun _ => false, .sl n n) := by
  simp only [pms, sl45, nat?, Int.toNat_natCast, sz4, by4, z4]
  rw [if_pos (by omega)]
  simp only []
  rw [if_pos ⟨Nat.le_refl _, by omega, by omega, rfl, rfl⟩, cells_bool, reps_single, rowc_false]
theorem st4s {n i : Nat} {f : Nat → Bool} {v : Bool} (hi : i < n) : stc Tryz.prog 4 (.cells 4 (rowc n f) (some 0)) i (.bool v) = some (.cells 4 (rowc n fun j => if j = i then v else f j) (some 0)) := by
  rw [stc_one sz4 (by simpa using hi) rfl rfl, rowc_set]
/-- No leading dot is taken from place i on. -/
def okAt (name : List UInt8) (i : Nat) : Bool := decide (0 < i) || !(name.head? == some 46)
/-- From place i to place j by a wild element. -/
def wrel (any : Bool) (name : List UInt8) (i j : Nat) : Prop := (any = true ∧ j = i) ∨ (i < j ∧ j ≤ name.length ∧ (any = true ∨ j = i + 1) ∧ okAt name i = true)
variable [O41]
theorem wild_sp (h : AHeap) (x : AV) (name : List UInt8) (any : Bool) (f : Nat → Bool) (hx : BRow h x (name.length + 1) f) (hl : name.length ≤ 60) : Ca Tryz.prog 18 [x, .str name, .bool any] h fun r h' => Pres h h' ∧ ∃ g, BRow h' r (name.length + 1) g ∧ ∀ j, g j = true ↔ ∃ i, i < name.length + 1 ∧ f i = true ∧ wrel any name i j := by
  refine ci Tryz.func18 rfl (by decide) ?_
  intro fr hn hg
  replace hn : fr.n = 57 := hn
  have h0 : fr.get 0 = some x := hg 0 (by simp)
  have h1 : fr.get 1 = some (.str name) := hg 1 (by simp)
  have h2 : fr.get 2 = some (.bool any) := hg 2 (by simp)
  clear hg
  show AW _ _ _ _ _
  obtain ⟨b, rfl, hb1, hb2⟩ := hx
  have en : ((name.length : Int) + 1) = ((name.length + 1 : Nat) : Int) := by omega
  obtain ⟨n, hnn⟩ : ∃ n, n = name.length + 1 := ⟨_, rfl⟩
  rw [← hnn] at h0 hb2 ⊢
  have hn61 : n ≤ 61 := by omega
  simp [hn, h0, h1, h2, kseq_normal, pms45 n (by omega)]
  refine AW_loop_fr (fun m fr' h' => ∃ i g, m = n - i ∧ i ≤ n ∧ fr'.get 16 = some (.int .i64 (i : Nat)) ∧ Pres h h' ∧ h.next < h'.next ∧ h'.get h.next = .cells 4 (rowc n g) (some 0) ∧ ∀ j, g j = true ↔ ∃ i', i' < i ∧ f i' = true ∧ wrel any name i' j) n
    ⟨0, fun _ => false, by simp, by omega, by simp, (Pres.refl h).new _, by simp, by simp, by simp⟩ ?_
  rintro J hJ m fr' h' ⟨i, g, rfl, hi, h16, hp, hlt, hrow, hgs⟩ hfr
  have hn' : fr'.n = 57 := hfr.1.trans (by simp [hn])
  have h1' : fr'.get 1 = some (.str name) := (hfr.2 1 (by kernel_rfl)).trans (by simp [h1])
  have h2' : fr'.get 2 = some (.bool any) := (hfr.2 2 (by kernel_rfl)).trans (by simp [h2])
  have h7' : fr'.get 7 = some (.sl h.next 0 0 n (.at_ n)) := (hfr.2 7 (by kernel_rfl)).trans (by simp)
  have h14' : fr'.get 14 = some (.sl b 0 0 n (.at_ n)) := (hfr.2 14 (by kernel_rfl)).trans (by simp [hn, h0])
  have h15' : fr'.get 15 = some (.int .i64 (n : Int)) := (hfr.2 15 (by kernel_rfl)).trans (by simp)
  clear hfr
  have hb2' : h'.get b = .cells 4 (rowc n f) (some 0) := (hp.2 b hb1).trans hb2
  simp [hn', h15', h16, kseq_normal]
  refine Br.mk (fun hb => ?_) (fun hb => ?_)
  · have hi : i < n := by rw [ilt_true] at hb; omega
    simp [hn', h14', h16, ia45 b n i hi, hb2', rowc_get f hi, kseq_normal]
    have fin : ∀ (fr3 : AFrame) (h3 : AHeap) (g3 : Nat → Bool), fr3.get 16 = some (.int .i64 ((i + 1 : Nat) : Int)) → Pres h h3 → h.next < h3.next → h3.get h.next = .cells 4 (rowc n g3) (some 0) → (∀ j, g3 j = true ↔ g j = true ∨ (f i = true ∧ wrel any name i j)) → ∃ j, j < n - i ∧ J j fr3 h3 := by
      intro fr3 h3 g3 a1 a2 a3 a4 a5
      refine ⟨n - (i + 1), by omega, hJ _ _ _ ⟨i + 1, g3, rfl, by omega, a1, a2, a3, a4, fun j => ?_⟩⟩
      rw [a5, hgs]
      constructor
      · rintro (⟨i', b1, b2, b3⟩ | ⟨b2, b3⟩)
        · exact ⟨i', by omega, b2, b3⟩
        · exact ⟨i, by omega, b2, b3⟩
      · rintro ⟨i', b1, b2, b3⟩
        by_cases e : i' = i
        · subst e; exact .inr ⟨b2, b3⟩
        · exact .inl ⟨i', by omega, b2, b3⟩
    refine Br.mk (fun hf => ?_) (fun hf => ?_)
    · cases hgi : g i
      all_goals
        simp [hn', h1', h2', h7', h16, ia45 h.next n i hi, hrow, rowc_get g hi, hgi, st4s hi, kseq_normal]
        refine AW_loop_fr (fun m fr2 h2 => ∃ k g2, m = n - k ∧ i ≤ k ∧ k ≤ name.length ∧ (any = true ∨ k = i) ∧ (i < k → okAt name i = true) ∧ fr2.get 10 = some (.int .i64 (k : Nat)) ∧ Pres h h2 ∧ h.next < h2.next ∧ h2.get h.next = .cells 4 (rowc n g2) (some 0) ∧ ∀ j, g2 j = true ↔ g j = true ∨ (any = true ∧ j = i) ∨ (i < j ∧ j ≤ k)) (n - i)
          ⟨i, _, rfl, Nat.le_refl _, by omega, .inr rfl, fun hx => by omega, by simp, hp.set (Nat.le_refl _) _, hlt, by simp; rfl, fun j => ?_⟩ ?_
        · by_cases e : j = i
          · subst e; simp [hgi]
            try (intro hx; omega)
          · simp [e]; intro _ hx; omega
        rintro J2 hJ2 m fr2 h2 ⟨k, g2, rfl, hik, hkl, hak, hok, h10, hp2, hlt2, hrow2, hgs2⟩ hfr2
        have hn2 : fr2.n = 57 := hfr2.1.trans (by simp [hn'])
        have h1b : fr2.get 1 = some (.str name) := (hfr2.2 1 (by kernel_rfl)).trans (by simp [h1'])
        have h2b : fr2.get 2 = some (.bool any) := (hfr2.2 2 (by kernel_rfl)).trans (by simp [h2'])
        have h7b : fr2.get 7 = some (.sl h.next 0 0 n (.at_ n)) := (hfr2.2 7 (by kernel_rfl)).trans (by simp [h7'])
        have h16b : fr2.get 16 = some (.int .i64 (i : Nat)) := (hfr2.2 16 (by kernel_rfl)).trans (by simp [h16])
        clear hfr2
        have out : ∀ g3 : Nat → Bool, (∀ j, g3 j = true ↔ g j = true ∨ (any = true ∧ j = i) ∨ (i < j ∧ j ≤ name.length ∧ (any = true ∨ j = i + 1) ∧ okAt name i = true)) → ∀ j, g3 j = true ↔ g j = true ∨ (f i = true ∧ wrel any name i j) := by
          intro g3 hg3 j
          rw [hg3]
          simp only [hf, true_and, wrel]
        by_cases hkl' : k < name.length
        · have e1 : ilt (k : Int) (name.length : Int) = true := by rw [ilt_true]; omega
          obtain ⟨c, r, hcr⟩ : ∃ c r, name = c :: r := by cases hq : name with | nil => rw [hq] at hkl'; simp at hkl' | cons c r => exact ⟨c, r, rfl⟩
          have hc2 : pindex Tryz.prog 9 (.str name) (.int .i64 0) = some (.int .u8 (c.toNat : Int)) := by
            rw [hcr]; exact ix9 (c :: r) 0
          have hc3 : (name.head? == some 46) = ieq (c.toNat : Int) 46 := by
            rw [hcr, Bool.eq_iff_iff, ieq_true]
            simp
            constructor
            · intro hx; subst hx; rfl
            · intro hx
              have : c.toNat = 46 := by omega
              exact UInt8.toNat_inj.1 this
          by_cases hok' : okAt name k = true
          · have hk2 : (ilt 0 (k : Int) = true) ∨ (ilt 0 (k : Int) = false ∧ ieq (c.toNat : Int) 46 = false) := by
              cases hx : ilt 0 (k : Int) with
              | true => exact .inl rfl
              | false =>
                refine .inr ⟨rfl, ?_⟩
                rw [ilt_false] at hx
                have : ¬ 0 < k := by omega
                simpa [okAt, this, hc3] using hok'
            rcases hk2 with hk2 | ⟨hk2, hk3⟩
            all_goals
              simp [hn2, h1b, h2b, h7b, h10, e1, hc2, hk2, kseq_normal]
              try simp [hk3, hn2, h1b, h2b, h7b, h10, kseq_normal]
              simp [hn2, h1b, h2b, h7b, h10, kseq_normal, wrap_nat k (by omega), ia45s h.next n k (by omega), hrow2, st4s (show k + 1 < n by omega)]
              have hoki : okAt name i = true := by
                by_cases e : i = k
                · rw [e]; exact hok'
                · exact hok (by omega)
              refine Br.mk (fun hany => ?_) (fun hany => ?_)
              · simp [hn2, h10, kseq_normal, wrap_nat k (by omega)]
                rw [kloop_normal]
                refine ⟨n - (k + 1), by omega, hJ2 _ _ _ ⟨k + 1, _, rfl, by omega, by omega, .inl hany, fun _ => hoki, by simp, hp2.set (Nat.le_refl _) _, hlt2, by simp; rfl, fun j => ?_⟩⟩
                by_cases e : j = k + 1
                · subst e; simp; right; right; omega
                · simp only [e, decide_false, Bool.false_or]
                  rw [hgs2]
                  constructor
                  · rintro (x | x | x)
                    · exact .inl x
                    · exact .inr (.inl x)
                    · exact .inr (.inr (by omega))
                  · rintro (x | x | x)
                    · exact .inl x
                    · exact .inr (.inl x)
                    · exact .inr (.inr (by omega))
              · have hki : k = i := by rcases hak with x | x; rw [hany] at x; cases x; exact x
                subst hki
                simp [hn2, h16b, kseq_normal, wrap_nat k (by omega)]
                rw [kloop_normal]
                refine fin _ _ _ (by simp) (hp2.set (Nat.le_refl _) _) hlt2 (by simp; rfl) (out _ fun j => ?_)
                by_cases e : j = k + 1
                · subst e; simp [hoki]; right; omega
                · simp only [e, decide_false, Bool.false_or]
                  rw [hgs2]
                  constructor
                  · rintro (x | x | x)
                    · exact .inl x
                    · exact .inr (.inl x)
                    · omega
                  · rintro (x | x | ⟨x1, x2, x3, x4⟩)
                    · exact .inl x
                    · exact .inr (.inl x)
                    · rcases x3 with x3 | x3
                      · rw [hany] at x3; cases x3
                      · exact x3.elim
          · have hk0 : k = 0 := by
              simp only [okAt, Bool.or_eq_true, decide_eq_true_eq, not_or] at hok'; omega
            have hi0 : i = 0 := by omega
            have hk3 : ieq (c.toNat : Int) 46 = true := by
              simp only [okAt, hc3, Bool.or_eq_true, decide_eq_true_eq, not_or] at hok'
              simpa using hok'.2
            have hnok : okAt name i = false := by rw [hi0, ← hk0]; simpa using hok'
            have hk2 : ilt 0 (k : Int) = false := by rw [ilt_false]; omega
            simp [hn2, h1b, h2b, h7b, h10, h16b, e1, hc2, hk2, hk3, kseq_normal, wrap_nat i (by omega)]
            try simp [hn2, h1b, h2b, h7b, h10, h16b, e1, hc2, hk2, hk3, kseq_normal, wrap_nat i (by omega)]
            rw [kloop_normal]
            refine fin _ _ _ (by simp) hp2 hlt2 hrow2 (out _ fun j => ?_)
            rw [hgs2]
            have hno : ¬ (i < j ∧ j ≤ k) := by omega
            simp [hnok, hno]
        · have e1 : ilt (k : Int) (name.length : Int) = false := by rw [ilt_false]; omega
          have hkk : k = name.length := by omega
          simp [hn2, h1b, h2b, h7b, h10, h16b, e1, kseq_normal, wrap_nat i (by omega)]
          try simp [hn2, h1b, h2b, h7b, h10, h16b, e1, kseq_normal, wrap_nat i (by omega)]
          rw [kloop_normal]
          refine fin _ _ _ (by simp) hp2 hlt2 hrow2 (out _ fun j => ?_)
          rw [hgs2]
          constructor
          · rintro (x | x | x)
            · exact .inl x
            · exact .inr (.inl x)
            · refine .inr (.inr ⟨x.1, by omega, ?_, hok (by omega)⟩)
              rcases hak with y | y
              · exact .inl y
              · omega
          · rintro (x | x | ⟨x1, x2, x3, x4⟩)
            · exact .inl x
            · exact .inr (.inl x)
            · exact .inr (.inr (by omega))
    · simp [hn', h16, kseq_normal]
      rw [kloop_normal]
      refine fin _ _ g (by simp [wrap_nat i (by omega)]) hp hlt hrow fun j => ?_
      simp [hf]
  · have : i = n := by rw [ilt_false] at hb; omega
    subst this
    simp [hn', h7', kseq_normal]
    exact ⟨hp, g, ⟨h.next, rfl, hlt, hrow⟩, hgs⟩
end Go.Eng.L41
