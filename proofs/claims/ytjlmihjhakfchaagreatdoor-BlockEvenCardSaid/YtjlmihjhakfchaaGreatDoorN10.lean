/- Part of a proof over the program's translation: The reference's ledger: rows that grow by parts.; The reference's ledger: put.; The reference's ledger: the plain law of Post; what all balances come to. -/
import Derived.Sort.Walk0
import Derived.Test.YtjlmihjhakfchaaGreatDoorA8
import Derived.Test.YtjlmihjhakfchaaGreatDoorN9
noncomputable section
/- The reference's ledger: rows that grow by parts. -/
namespace Go.AM.C
open Go.Proofs
noncomputable section
set_option linter.unusedVariables false
set_option linter.unusedSimpArgs false
end
end Go.AM.C

/- The reference's ledger: put. -/
namespace Go.AM.C
open Go.Proofs
noncomputable section
set_option linter.unusedVariables false
set_option linter.unusedSimpArgs false
end
end Go.AM.C

/- The reference's ledger: the plain law of Post; what all balances come to. -/
namespace Go.AM.C
set_option linter.unusedVariables false
set_option linter.unusedSimpArgs false

/-! #### names -/
def names (l : Posts) : List (List UInt8) := l.map (·.1)
theorem put_keys {α : Type} (l : List (List UInt8 × α)) (k k' : List UInt8) (v : α) : k' ∈ (putE l k v).map (·.1) ↔ k' = k ∨ k' ∈ l.map (·.1) := by
  have e1 : ∀ (s : List (List UInt8 × α)), k' ∈ s.map (·.1) ↔ getE s k' ≠ none := fun s => by rw [Ne, getE_none, Classical.not_not]
  rw [e1, e1]
  by_cases h : k' = k
  · subst h; rw [getE_put_self]; simp
  · rw [getE_put_ne h]; simp [h]
theorem fold_keys (undo : Bool) (k : List UInt8) : ∀ (l : Posts) (s : Sums), k ∈ (l.foldl (sumStep undo) s).map (·.1) ↔ k ∈ names l ∨ k ∈ s.map (·.1)
  | [], s => by simp [names]
  | p :: l, s => by
    rw [List.foldl_cons, fold_keys undo k l]
    unfold sumStep names
    rw [put_keys, List.map_cons, List.mem_cons]
    constructor
    · rintro (h | h | h)
      · exact .inl (.inr h)
      · exact .inl (.inl h)
      · exact .inr h
    · rintro ((h | h) | h)
      · exact .inr (.inl h)
      · exact .inl h
      · exact .inr (.inr h)
theorem sums_names (undo : Bool) (l : Posts) (k : List UInt8) : k ∈ (sumsOf undo l).map (·.1) ↔ k ∈ names l := by
  unfold sumsOf
  rw [fold_keys]
  simp
/-- The books after a booking, name by name. -/
theorem getE_books (undo : Bool) (m l : Posts) (k : List UInt8) : getE (bookE m (sumsOf undo l)) k = if k ∈ names l then some (look 0 m k + amt undo l k) else getE m k := by
  rw [bookE_get _ _ _ (sums_nodup undo l)]
  by_cases h : k ∈ names l
  · rw [if_pos h]
    cases hg : getE (sumsOf undo l) k with
    | none => exact absurd ((sums_names undo l k).2 h) (getE_none.1 hg)
    | some v =>
      have : v.getD 0 = amt undo l k := by rw [← sval_sums]; unfold sval look; rw [hg]; rfl
      simp only [this]
  · rw [if_neg h]
    have : getE (sumsOf undo l) k = none := getE_none.2 fun x => h ((sums_names undo l k).1 x)
    rw [this]
theorem take_names {l : Posts} {i : Nat} {p : List UInt8 × Int} (hp : l[i]? = some p) : names (l.take (i + 1)) = names (l.take i) ++ [p.1] := by
  unfold names
  rw [List.take_add_one, hp, List.map_append]; rfl
/-! #### what the reference's Post knows after i postings -/
structure RefI (undo : Bool) (m l N : Posts) (i : Nat) : Prop where
  ss : SS N
  get : ∀ k, getE N k = if k ∈ names (l.take i) then some (look 0 m k + amt undo l k) else getE m k
  ok : ∀ k ∈ names (l.take i), i64 (look 0 m k + amt undo l k)
theorem RefI.zero {undo : Bool} {m l : Posts} (h : (m.map (·.1)).Nodup) : RefI undo m l (srt m) 0 := by
  refine ⟨srt_ss h, fun k => ?_, fun k hk => ?_⟩
  · rw [srt_get h, List.take_zero]; simp [names]
  · rw [List.take_zero] at hk; cases hk
theorem RefI.old {undo : Bool} {m l N : Posts} {i : Nat} {p : List UInt8 × Int} (h : RefI undo m l N i) (hp : l[i]? = some p) (ho : p.1 ∈ names (l.take i)) : RefI undo m l N (i + 1) := by
  have e : ∀ k, k ∈ names (l.take (i + 1)) ↔ k ∈ names (l.take i) := fun k => by
    rw [take_names hp, List.mem_append, List.mem_singleton]
    exact ⟨fun x => x.elim id (fun y => by rw [y]; exact ho), .inl⟩
  refine ⟨h.ss, fun k => ?_, fun k hk => h.ok k ((e k).1 hk)⟩
  rw [h.get]
  by_cases hk : k ∈ names (l.take i)
  · rw [if_pos hk, if_pos ((e k).2 hk)]
  · rw [if_neg hk, if_neg fun x => hk ((e k).1 x)]
theorem RefI.new {undo : Bool} {m l N : Posts} {i : Nat} {p : List UInt8 × Int} (h : RefI undo m l N i) (hp : l[i]? = some p) {x : Int} (hx : x = look 0 m p.1 + amt undo l p.1) (hxi : i64 x) : RefI undo m l (rput N (p.1, x)) (i + 1) := by
  have e : ∀ k, k ∈ names (l.take (i + 1)) ↔ k ∈ names (l.take i) ∨ k = p.1 := fun k => by rw [take_names hp, List.mem_append, List.mem_singleton]
  refine ⟨rput_ss h.ss, fun k => ?_, fun k hk => ?_⟩
  · rw [rput_get k h.ss, h.get]
    by_cases hk : k = p.1
    · subst hk
      rw [if_pos rfl, if_pos ((e _).2 (.inr rfl)), hx]
    · rw [if_neg hk]
      by_cases hk2 : k ∈ names (l.take i)
      · rw [if_pos hk2, if_pos ((e _).2 (.inl hk2))]
      · rw [if_neg hk2, if_neg fun z => ((e _).1 z).elim hk2 hk]
  · rcases (e k).1 hk with h1 | h1
    · exact h.ok k h1
    · rw [h1, ← hx]; exact hxi
theorem RefI.last {undo : Bool} {m l N : Posts} (h : RefI undo m l N l.length) (hm : (m.map (·.1)).Nodup) : N = srt (bookE m (sumsOf undo l)) := by
  refine ss_ext h.ss (srt_ss (bookE_nodup _ _ hm)) fun k => ?_
  rw [srt_get (bookE_nodup _ _ hm), getE_books, h.get, List.take_length]
/-! #### what all balances come to -/
end Go.AM.C

