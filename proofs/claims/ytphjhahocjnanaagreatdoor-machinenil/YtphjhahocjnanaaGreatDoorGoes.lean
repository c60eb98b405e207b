/- No function of the program starts a goroutine; conditions: none. -/
import Derived.Test.YtphjhahocjnanaaGreatDoorRows
import GoSem.ClaimGoes
import Derived.KernelRfl
set_option linter.all false
set_option maxRecDepth 100000
set_option maxHeartbeats 0
namespace Go.Proofs.YtphjhahocjnanaaGreatDoor
open Go
theorem noGoes : Tryz.prog.funcs.toList.all (fun fn => !fn.goes) = true := by kernel_rfl

theorem goes_none {P : Program} (h : P.funcs.toList.all (fun fn => !fn.goes) = true) (f : FuncId) : P.goes f = false := by
  have hall : ∀ g : Nat, (P.funcs[g]?).any Func.goes = false := by
    intro g
    cases hg : P.funcs[g]? with
    | none => rfl
    | some fn =>
      have hm : fn ∈ P.funcs.toList := Array.mem_toList_iff.2 (Array.mem_of_getElem? hg)
      have := List.all_eq_true.1 h fn hm
      simpa using this
  unfold Program.goes
  rw [Bool.or_eq_false_iff]
  constructor
  · rw [List.any_eq_false]
    intro g _
    simp [hall g]
  · rw [Bool.and_eq_false_iff]
    right
    rw [← Array.any_toList, List.any_eq_false]
    intro fn hm
    have := List.all_eq_true.1 h fn hm
    simpa using this

theorem goesBy_none {P : Program} (h : P.funcs.toList.all (fun fn => !fn.goes) = true) (c : OpenClaim) (hs : c.start = .entering) : false = c.goesBy P := by
  unfold OpenClaim.goesBy Program.goesAt Program.goesFrom
  rw [hs]
  cases P.funcNamed c.func with
  | none => rfl
  | some f => simp [goes_none h f]
end Go.Proofs.YtphjhahocjnanaaGreatDoor
