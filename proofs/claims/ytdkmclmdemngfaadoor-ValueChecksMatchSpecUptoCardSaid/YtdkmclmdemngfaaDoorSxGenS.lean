/- SX: regions that draw, with a serial end, as the printed proofs use them. -/
import Derived.Test.YtdkmclmdemngfaaDoorSxGen
import Derived.Test.YtdkmclmdemngfaaDoorSxDrawS
namespace Go.SX
open Go
set_option linter.unusedVariables false

section
variable {P : Program} {n n0 : Nat} {loose an : List Nat} {Q : QT} {fr : Fr} {st : St} {c : Code} {ops : Array Oper}

theorem XW.drwS (m : Nat) (fr' : Fr) (he : regKind c = some true) (hm : ((drawOk (regOps c) && sufOk (regOps c) m) && P.follows .mixedOrders) = true) (hs : DX P n st (regOps c) ((regOps c).toList.take m) fr fr')
    (hk : XO P n n0 loose (regOps c) ((regOps c).toList.drop m) Q fr' st) : XW P n n0 loose c Q fr st := by
  obtain ⟨as, hs1, hs2⟩ := hs
  cases c <;> simp only [regKind] at he <;> try (cases he; done)
  simp only [Option.some.injEq] at he
  subst he
  rw [Bool.and_eq_true] at hm
  exact XW.drawS m rfl hm.2 hm.1 hs1 (hs2 ▸ hk)

end
end Go.SX
