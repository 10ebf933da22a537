/- Part of a proof over the program's translation: The tie, 2. -/
import Derived.Test.YtjlmihjhakfchaaGreatDoorTi1
/- The tie, 2. -/
namespace Go.Proofs.YtjlmihjhakfchaaGreatDoor
open Go
theorem t8 : ∀ os tape, (DataW.laidRun Tryz.prog (varsWorld Tryz.prog 400 (varsId Tryz.prog) os tape).memory 8 ((tL.filter fun x => x.2.handleName?.isNone).map (·.1))).map (·.1) = some (tL.filter fun x => x.2.handleName?.isNone) := fun _ _ => by kernel_rfl
theorem t9 : ∀ os tape, (DataW.laidRun Tryz.prog (varsWorld Tryz.prog 400 (varsId Tryz.prog) os tape).memory 8 ((tL.filter fun x => x.2.handleName?.isNone).map (·.1))).map (fun x => decide x.2.Nodup && laidRowsB Tryz.prog (varsWorld Tryz.prog 400 (varsId Tryz.prog) os tape).memory x.2) = some true := fun _ _ => by kernel_rfl
theorem t10 : ∀ os tape, (tL.filter fun x => x.2.handleName?.isSome).all (handleAtB Tryz.prog (varsWorld Tryz.prog 400 (varsId Tryz.prog) os tape).memory) = true := fun _ _ => by kernel_rfl
theorem tieL : Tryz.prog.laidByTextLater tL tK true := Program.laidByTextLater_by_run_h 400 8 t1 t2 t3 t4 t5 t6 t7 t8 t9 t10
theorem goes_none {P : Program} (h : P.funcs.any Func.goes = false) (f : FuncId) : P.goes f = false := by
  unfold Program.goes
  rw [h, Bool.and_false, Bool.or_false, List.any_eq_false]
  intro g _
  cases hg : P.funcs[g]? with
  | none => simp
  | some fn =>
    simp only [Option.any_some]
    have := Array.any_eq_false.1 h
    obtain ⟨hl, rfl⟩ := Array.getElem?_eq_some_iff.1 hg
    exact this g hl
theorem noGo : Tryz.prog.funcs.any Func.goes = false := by kernel_rfl
theorem goesFrom_none {P : Program} (h : P.funcs.any Func.goes = false) (s : String) : P.goesFrom s = false := by
  unfold Program.goesFrom
  cases P.funcNamed s with
  | none => rfl
  | some f => exact goes_none h f
theorem goesBy_none {P : Program} {c : OpenClaim} (h : P.funcs.any Func.goes = false) (hs : c.start = .entering) : false = c.goesBy P := by
  unfold OpenClaim.goesBy Program.goesAt
  rw [goesFrom_none h, hs]
  rfl
theorem tLooks : true = Tryz.prog.looks [] := by kernel_rfl
end Go.Proofs.YtjlmihjhakfchaaGreatDoor

