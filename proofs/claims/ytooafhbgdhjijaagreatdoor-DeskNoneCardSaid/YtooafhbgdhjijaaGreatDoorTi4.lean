/- Part of a proof over the program's translation: The tie, with the list in another order, 2. -/
import Derived.Test.YtooafhbgdhjijaaGreatDoorTi3
/- The tie, with the list in another order, 2. -/
namespace Go.Proofs.YtooafhbgdhjijaaGreatDoor
open Go
theorem t8b : ∀ os tape, (DataW.laidRun Tryz.prog (varsWorld Tryz.prog 400 (varsId Tryz.prog) os tape).memory 8 ((tL2.filter fun x => x.2.handleName?.isNone).map (·.1))).map (·.1) = some (tL2.filter fun x => x.2.handleName?.isNone) := fun _ _ => by kernel_rfl
theorem t9b : ∀ os tape, (DataW.laidRun Tryz.prog (varsWorld Tryz.prog 400 (varsId Tryz.prog) os tape).memory 8 ((tL2.filter fun x => x.2.handleName?.isNone).map (·.1))).map (fun x => decide x.2.Nodup && laidRowsB Tryz.prog (varsWorld Tryz.prog 400 (varsId Tryz.prog) os tape).memory x.2) = some true := fun _ _ => by kernel_rfl
theorem t10b : ∀ os tape, (tL2.filter fun x => x.2.handleName?.isSome).all (handleAtB Tryz.prog (varsWorld Tryz.prog 400 (varsId Tryz.prog) os tape).memory) = true := fun _ _ => by kernel_rfl
theorem tieL2 : Tryz.prog.laidByTextLater tL2 tK2 true := Program.laidByTextLater_by_run_h 400 8 t1 t2 t3 t4b t5 t6b t7 t8b t9b t10b
end Go.Proofs.YtooafhbgdhjijaaGreatDoor

