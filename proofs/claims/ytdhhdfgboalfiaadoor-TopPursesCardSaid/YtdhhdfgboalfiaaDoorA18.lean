/- Where things lie in a program's code. -/
import Derived.Test.YtdhhdfgboalfiaaDoorA17
namespace Go.Ab
def bodyOf (P : Program) (f : Nat) : Code := match P.funcs[f]? with | some fn => fn.body.getD .skip | none => .skip

/-- What is left to do when a region is reached. -/
def contGo (r : Nat) : Code → List KI → Option (List KI)
  | .region id ops draw, k => match Nat.beq id r with | true => some (.exec (.region id ops draw) :: k) | false => none
  | .seq a b, k => match contGo r a (.code b :: k) with | some l => some l | none => contGo r b k
  | .cond x a b, k => match contGo r a k with | some l => some l | none => contGo r b k
  | .scope b, k => contGo r b (.inScope b :: k)
  | .block id b, k => contGo r b (.inBlock id :: k)
  | .loop b, k => contGo r b (.inLoop b :: k)
  | _, _ => none
def contOf (c : Code) (r : Nat) : List KI := match contGo r c [] with | some l => l | none => []
end Go.Ab
