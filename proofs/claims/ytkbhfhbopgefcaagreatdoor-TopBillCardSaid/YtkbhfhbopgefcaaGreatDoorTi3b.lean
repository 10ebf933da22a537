/- Part of a proof over the program's translation: The tie, with the list in another order, 2. -/
import Derived.Test.YtkbhfhbopgefcaaGreatDoorTi3a
/- The tie, with the list in another order, 2. -/
namespace Go.Proofs.YtkbhfhbopgefcaaGreatDoor
open Go
theorem t8o3 : ∀ os tape, (DataW.laidRun Tryz.prog (varsWorld Tryz.prog 400 (varsId Tryz.prog) os tape).memory 8 ((tL3.filter fun x => x.2.handleName?.isNone).map (·.1))).map (·.1) = some (tL3.filter fun x => x.2.handleName?.isNone) := fun _ _ => by kernel_rfl
theorem t9o3 : ∀ os tape, (DataW.laidRun Tryz.prog (varsWorld Tryz.prog 400 (varsId Tryz.prog) os tape).memory 8 ((tL3.filter fun x => x.2.handleName?.isNone).map (·.1))).map (fun x => decide x.2.Nodup && laidRowsB Tryz.prog (varsWorld Tryz.prog 400 (varsId Tryz.prog) os tape).memory x.2) = some true := fun _ _ => by kernel_rfl
theorem t10o3 : ∀ os tape, (tL3.filter fun x => x.2.handleName?.isSome).all (handleAtB Tryz.prog (varsWorld Tryz.prog 400 (varsId Tryz.prog) os tape).memory) = true := fun _ _ => by kernel_rfl
theorem tieL3 : Tryz.prog.laidByTextLater tL3 tK3 true := Program.laidByTextLater_by_run_h 400 8 t1 t2 t3 t4o3 t5 t6o3 t7 t8o3 t9o3 t10o3
theorem goes_none3 {P : Program} (h : P.funcs.any Func.goes = false) (f : FuncId) : P.goes f = false := by
  unfold Program.goes
  rw [h, Bool.and_false, Bool.or_false, List.any_eq_false]
  intro g _
  cases hg : P.funcs[g]? with
  | none => simp
  | some fn =>
    simp only [Option.any_some]
    have := Array.any_eq_false.1 h
    obtain ⟨hl, rfl⟩ := Array.getElem?_eq_some_iff.1 hg
    exact this g hl
theorem noGo3 : Tryz.prog.funcs.any Func.goes = false := by kernel_rfl
theorem goesFrom_none3 {P : Program} (h : P.funcs.any Func.goes = false) (s : String) : P.goesFrom s = false := by
  unfold Program.goesFrom
  cases P.funcNamed s with
  | none => rfl
  | some f => exact goes_none3 h f
theorem goesBy_none3 {P : Program} {c : OpenClaim} (h : P.funcs.any Func.goes = false) (hs : c.start = .entering) : false = c.goesBy P := by
  unfold OpenClaim.goesBy Program.goesAt
  rw [goesFrom_none3 h, hs]
  rfl
theorem tLooks3 : true = Tryz.prog.looks [] := by kernel_rfl
end Go.Proofs.YtkbhfhbopgefcaaGreatDoor

