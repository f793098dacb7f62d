/- Law 41: awake, known wherever the variables are laid. -/
import Derived.Test.YtcjgagkkanokjacGreatDoorA41
import Derived.Test.YtcjgagkkanokjacGreatDoorE39d
namespace Go.Eng.L41
open Go.Proofs Go.Eng
def opsL : List AV := [[38, 38], [124, 124], [62, 62], [59], [124], [38], [62], [60]].map str
def behL : List (AV × AV × Nat) := [(str [38], .int .i64 2, 0), (str [38, 38], .int .i64 3, 1), (str [59], .int .i64 1, 2), (str [124, 124], .int .i64 4, 3)]
def hL (t1 t2 t3 : TypeId) : AHeap := ((((⟨12, 10, .nil⟩ : AHeap).set 1 (.cells t1 [.sl 10 0 0 8 (.at_ 8)] none)).set 2 (.cells t2 [.map 11] none)).set 10 (.cells t3 opsL none)).set 11 (.map behL 4 false)
noncomputable def callA : CallFn := fun f args h => bif Nat.beq f 21 then dbody Tryz.prog (@acall Tryz.prog Orc.none 100) 100 21 args h else none
@[reducible] noncomputable def orA : Orc := ⟨callA, fun f args h r h' ho => by
  unfold callA at ho
  cases hb : Nat.beq f 21 with
  | false => simp [hb] at ho
  | true => simp [hb] at ho; exact dbody_nx (@acall_nx _ Orc.none 100) _ _ _ _ _ ho⟩
theorem callA_ok : CallOk Tryz.prog callA := by
  intro f args h r h' ρ w cargs ho hs hargs
  unfold callA at ho
  cases hb : Nat.beq f 21 with
  | false => simp [hb] at ho
  | true =>
    simp [hb] at ho
    obtain rfl := Nat.eq_of_beq_eq_true hb
    exact dbody_sound pok caught_ok (@acall_sound _ Orc.none pok (CallOk.none _) 100) 100 21 args h r h' ρ w cargs ho hs hargs
def okTrue (r : Option (AV × AHeap)) : Bool := match r with | some (.bool true, _) => true | _ => false
set_option maxRecDepth 100000 in
theorem awake_run (t1 t2 t3 : TypeId) : okTrue (@acall Tryz.prog orA 100 6 [] (hL t1 t2 t3)) = true := by kernel_rfl
/-- The variables that awake reads lie in the heap. -/
def Laid (h : AHeap) : Prop := 10 ≤ h.glob ∧ ∃ b1 b2 t1 t2 t3, h.get 1 = .cells t1 [.sl b1 0 0 8 (.at_ 8)] none ∧ h.get 2 = .cells t2 [.map b2] none ∧ h.get b1 = .cells t3 opsL none ∧ h.get b2 = .map behL 4 false
end Go.Eng.L41
