/-
  DiskPlays' switch, out of the function's text.
-/
import Derived.Test.YtfmdloomjnmpgaaPlay0
namespace Go.Proofs.Ytfmdloomjnmpgaa
def swFind : Code → Option Code
  | .loop c => swFind c
  | .seq a b => match swFind a with
    | some c => some c
    | none => swFind b
  | .block n c => if n = 2 then some (.block n c) else swFind c
  | .scope c => swFind c
  | .cond _ a b => match swFind a with
    | some c => some c
    | none => swFind b
  | _ => none
noncomputable def sw : Code := (Try.f3.body.bind swFind).getD .skip
end Go.Proofs.Ytfmdloomjnmpgaa
