/- Part of a proof over the program's translation: Contracts told by relations, as entries of a table; calls told one by one. -/
import Derived.Test.YtjlmihjhakfchaaGreatDoorN0
import Derived.Test.YtjlmihjhakfchaaGreatDoorA8
/- Contracts told by relations, as entries of a table; calls told one by one. -/
namespace Go.AM.C
open Go.Proofs
noncomputable section
set_option linter.unusedVariables false
set_option linter.unusedSimpArgs false

theorem relX_ok {R : List AVal → Heap → AVal → Heap → Prop} {f : FuncId} (hh : ∀ args H v H', R args H v H' → Has f args H v H') (S : Sg) (hg : S.glob = S0.glob) (hp : S.pin = S0.pin) : ExtAt Tryz.prog S f (relX R) :=
  fun args H v H' hx => DoesC.glob hg hp (hh _ _ _ _ (relX_is hx))
theorem relX_quiet {R : List AVal → Heap → AVal → Heap → Prop} (hq : ∀ args H v H', R args H v H' → H' = H) : true = true → ∀ args H v H', relX R args H = some (v, H') → H' = H :=
  fun _ args H v H' hx => hq _ _ _ _ (relX_is hx)
/-- One call, told. -/
abbrev oneE (f : FuncId) (args : List AVal) (v : AVal) : Ent := ⟨f, relX (listR [(args, v)]), true, relX_quiet fun _ _ _ _ h => h.2⟩
theorem oneE_ok {f : FuncId} {args : List AVal} {v : AVal} (h : ∀ H, Has f args H v H) (S : Sg) (hg : S.glob = S0.glob) (hp : S.pin = S0.pin) : ExtAt Tryz.prog S f (relX (listR [(args, v)])) :=
  relX_ok (fun args' H v' H' ⟨hm, hh⟩ => by
    rw [List.mem_singleton] at hm
    cases hm
    subst hh
    exact h _) S hg hp
theorem oneE_eq {args : List AVal} {v : AVal} {H : Heap} : relX (listR [(args, v)]) args H = some (v, H) :=
  relX_eq (listR_fun fun p hp q hq _ => by rw [List.mem_singleton] at hp hq; rw [hp, hq]) ⟨List.mem_singleton.2 rfl, rfl⟩
end
end Go.AM.C

