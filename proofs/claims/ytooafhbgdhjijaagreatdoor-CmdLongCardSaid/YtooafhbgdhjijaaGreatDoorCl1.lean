/- Part of a proof over the program's translation: CmdLong: closed calls of Get and same, by the kernel. -/
import Derived.Test.YtooafhbgdhjijaaGreatDoorN11
/- CmdLong: closed calls of Get and same, by the kernel. -/
namespace Go.AM.C
open Go.Proofs
noncomputable section
set_option linter.unusedVariables false
set_option linter.unusedSimpArgs false

def cmd0 : AVal := .agg ti64.zero
def errF (k : Int) (s : List UInt8) : AVal := .ip [iA k, .str s, .nili] 0 true
def errE (k : Nat) : AVal := if k ≤ 5 then errF 1 [50, 50] else errF 11 [108, 105, 110, 101]
def lnS : List UInt8 := [112, 97, 114, 116, 32, 49]
def lnT (j : Nat) : List UInt8 := (List.replicate j [32, 55]).flatten
/-- The line of so many bytes. -/
def lineL (n : Nat) : List UInt8 := (lnS ++ lnT 100).take n
def lineO (k : Nat) : Memo := [([.str (lineL (195 + k))], .tup [cmd0, .iface 165 (errE k)])]
def byteM : Memo := (List.range 256).map fun c => ([.str (List.replicate 201 (UInt8.ofNat c))], .tup [cmd0, .iface 165 (errF 11 [108, 105, 110, 101])])
def sameM : Memo := [([.iface 165 (errF 1 [50, 50]), iA 11], .bool false), ([.iface 165 (errF 11 [108, 105, 110, 101]), iA 11], .bool true)]
theorem lineO_0 : AllM 26 (lineO 0) := memOK_ok sB (show memOK SB 26 (lineO 0) = true by kernel_rfl)
theorem lineO_1 : AllM 26 (lineO 1) := memOK_ok sB (show memOK SB 26 (lineO 1) = true by kernel_rfl)
theorem lineO_2 : AllM 26 (lineO 2) := memOK_ok sB (show memOK SB 26 (lineO 2) = true by kernel_rfl)
theorem lineO_3 : AllM 26 (lineO 3) := memOK_ok sB (show memOK SB 26 (lineO 3) = true by kernel_rfl)
theorem lineO_4 : AllM 26 (lineO 4) := memOK_ok sB (show memOK SB 26 (lineO 4) = true by kernel_rfl)
theorem lineO_5 : AllM 26 (lineO 5) := memOK_ok sB (show memOK SB 26 (lineO 5) = true by kernel_rfl)
theorem lineO_6 : AllM 26 (lineO 6) := memOK_ok sB (show memOK SB 26 (lineO 6) = true by kernel_rfl)
theorem lineO_7 : AllM 26 (lineO 7) := memOK_ok sB (show memOK SB 26 (lineO 7) = true by kernel_rfl)
theorem lineO_8 : AllM 26 (lineO 8) := memOK_ok sB (show memOK SB 26 (lineO 8) = true by kernel_rfl)
theorem lineO_9 : AllM 26 (lineO 9) := memOK_ok sB (show memOK SB 26 (lineO 9) = true by kernel_rfl)
theorem lineO_ok : ∀ k, k < 10 → AllM 26 (lineO k)
  | 0, _ => lineO_0
  | 1, _ => lineO_1
  | 2, _ => lineO_2
  | 3, _ => lineO_3
  | 4, _ => lineO_4
  | 5, _ => lineO_5
  | 6, _ => lineO_6
  | 7, _ => lineO_7
  | 8, _ => lineO_8
  | 9, _ => lineO_9
  | k + 10, h => absurd h (by omega)
theorem byteM_ok : AllM 26 byteM := memOK_ok sB (show memOK SB 26 byteM = true by kernel_rfl)
theorem sameM_ok : AllM 17 sameM := memOK_ok sB (show memOK SB 17 sameM = true by kernel_rfl)
theorem get_line (k : Nat) (hk : k < 10) (H : Heap) : Has 26 [.str (lineL (195 + k))] H (.tup [cmd0, .iface 165 (errE k)]) H :=
  lineO_ok k hk (_, _) (List.mem_singleton.2 rfl) H
theorem get_bytes (b : UInt8) (H : Heap) : Has 26 [.str (List.replicate 201 b)] H (.tup [cmd0, .iface 165 (errF 11 [108, 105, 110, 101])]) H := by
  have h := byteM_ok (_, _) (List.mem_map.2 ⟨b.toNat, List.mem_range.2 b.toNat_lt, rfl⟩) H
  simpa using h
theorem same_line (k : Nat) (H : Heap) : Has 17 [.iface 165 (errE k), iA 11] H (.bool (decide (5 < k))) H := by
  unfold errE
  by_cases h : k ≤ 5
  · rw [if_pos h, decide_eq_false (by omega)]
    exact sameM_ok (_, _) (List.mem_cons_self) H
  · rw [if_neg h, decide_eq_true (by omega)]
    exact sameM_ok (_, _) (List.mem_cons_of_mem _ List.mem_cons_self) H
theorem same_bytes (H : Heap) : Has 17 [.iface 165 (errF 11 [108, 105, 110, 101]), iA 11] H (.bool true) H := sameM_ok (_, _) (List.mem_cons_of_mem _ List.mem_cons_self) H

end
end Go.AM.C

