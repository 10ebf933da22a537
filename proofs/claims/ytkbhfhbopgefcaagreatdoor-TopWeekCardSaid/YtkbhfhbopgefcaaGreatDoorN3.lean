/- Part of a proof over the program's translation: Contracts, 14: strings.Join, strings.Repeat; natives. -/
import Derived.Test.YtkbhfhbopgefcaaGreatDoorN2
import Derived.Test.YtkbhfhbopgefcaaGreatDoorA7
noncomputable section
/- Contracts, 14: strings.Join, strings.Repeat; natives. -/
namespace Go.AM.C
open Go.Proofs Go.RowKit Go.Shelf
noncomputable section
set_option linter.unusedVariables false
set_option linter.unusedSimpArgs false

theorem extra156 : Builder.Extra Tryz.prog Tryz.lays156_ren where
  sizeBuilder := by kernel_rfl
  liesBuilder := by kernel_rfl
  t5 := Tryz.underlying5
  a5 := Tryz.isAgg5
  z5 := Tryz.sizeOf5
  v5 := Tryz.zeroValue5
  infoByte := by kernel_rfl
  cellsByte := by kernel_rfl
  sizeByte := by kernel_rfl
  neB5 := by decide
theorem extra105 : Builder.Extra Tryz.prog Tryz.lays105_ren where
  sizeBuilder := by kernel_rfl
  liesBuilder := by kernel_rfl
  t5 := Tryz.underlying5
  a5 := Tryz.isAgg5
  z5 := Tryz.sizeOf5
  v5 := Tryz.zeroValue5
  infoByte := by kernel_rfl
  cellsByte := by kernel_rfl
  sizeByte := by kernel_rfl
  neB5 := by decide

/-! #### strings.Join -/
def joinL (sep : List UInt8) : List (List UInt8) → List UInt8
  | [] => []
  | [x] => x
  | x :: y :: r => x ++ (sep ++ joinL sep (y :: r))
theorem joinL_eq (sep : List UInt8) : ∀ l : List (List UInt8), joinL sep l = Lib.join l sep
  | [] => by simp [joinL, Lib.join, List.intercalate]
  | [x] => by rw [Lib.join_one]; rfl
  | x :: y :: r => by
    have ih := joinL_eq sep (y :: r)
    unfold joinL
    rw [ih]
    simp [Lib.join, List.intercalate, List.intersperse]
def lenB (l : List UInt8) : Bool := Nat.ble l.length 1073741824
def joinX : Ext := fun args H => match args with
  | [x, .str sep] => match x with
    | .str _ => none
    | x => match sliceCells H 1 x with
      | some (cells, k) => match allStr cells with
        | some ss => bif lenB (joinL sep ss) && Nat.ble k 1073741824 then some (.str (joinL sep ss), H) else none
        | none => none
      | none => none
  | _ => none

theorem data_toList (l : List (List UInt8)) : (l.map fun s => (⟨s.toArray⟩ : ByteArray)).map (·.data.toList) = l := by
  induction l with
  | nil => rfl
  | cons a l ih => simp only [List.map_cons, ih]

theorem joinX_ok (S : Sg) (hg : S.glob = S0.glob) : ExtAt Tryz.prog S 93 joinX := by
  intro args H v H' hx c w cargs r hgl ha
  unfold joinX at hx
  split at hx
  · rename_i x sep
    have hne : ∀ l, x ≠ .str l := by
      intro l e
      subst e
      cases hx
    have hx' : (match sliceCells H 1 x with
      | some (cells, k) => match allStr cells with
        | some ss => bif lenB (joinL sep ss) && Nat.ble k 1073741824 then some (AVal.str (joinL sep ss), H) else none
        | none => none
      | none => none) = some (v, H') := by
      cases x <;> first | exact hx | exact absurd rfl (hne _)
    clear hx
    split at hx'
    · rename_i cells k hc
      split at hx'
      · rename_i ss hs
        cases hb : lenB (joinL sep ss) && Nat.ble k 1073741824 with
        | false => rw [hb] at hx'; cases hx'
        | true =>
          rw [hb] at hx'
          cases hx'
          rw [Bool.and_eq_true] at hb
          have hb1 : (joinL sep ss).length ≤ 1073741824 := Nat.le_of_ble_eq_true hb.1
          have hb2 : k ≤ 1073741824 := Nat.le_of_ble_eq_true hb.2
          obtain ⟨vx, vy, rfl, h1, h2⟩ := ha.two
          obtain ⟨hlen, p, ca, rfl, hca, hcells⟩ := strs_at r h1 hc hs hne
          cases h2 with
          | str _ t ht =>
            have e1 : ∀ w cargs, (callFunc 93 cargs).run Tryz.prog w = .ok (.enter 93 cargs) w := fun w cargs => enters_of Tryz.func93 (by kernel_rfl) rfl cargs w
            refine .inl ⟨fun w => e1 w _, ?_⟩
            rcases hcells with h0 | ⟨bk, o, rfl, hbk, hcell⟩
            · subst h0
              have hss : ss = [] := List.eq_nil_of_length_eq_zero hlen
              subst hss
              refine (Any.strings_Join_none Tryz.lays156 extra156 p ca t w).mono ?_
              rintro e w' ⟨rfl, rfl⟩
              exact ⟨_, rfl, c, r, Post.refl _ _ _, .str _ _ rfl⟩
            · have hcall := Any.strings_Join Tryz.lays156 extra156 bk o ca (ss.map fun s => ⟨s.toArray⟩) t w (fun j x hx => by
                rw [List.getElem?_map] at hx
                cases hj : ss[j]? with
                | none => rw [hj] at hx; cases hx
                | some s => rw [hj] at hx; cases hx; exact hcell j s hj) hbk (by simp; omega) (by simp; omega) (by
                rw [data_toList, ht, ← joinL_eq]; omega)
              rw [data_toList, ht, ← joinL_eq, List.length_map, hlen] at hcall
              refine Calls.mono hcall ?_
              rintro e w' ⟨rfl, hb⟩
              obtain ⟨r', p'⟩ := below_post r hb
              exact ⟨_, rfl, c, r', p', .str _ _ rfl⟩
      · cases hx'
    · cases hx'
  · cases hx

/-! #### strings.Repeat -/
def repX : Ext := fun args H => match args with
  | [.str s, .int .i64 k] => if 0 ≤ k ∧ k ≤ 1048576 ∧ s.length ≤ 1048576 then some (.str (Lib.repeatL s k.toNat), H) else none
  | _ => none
theorem repX_ok (S : Sg) (hg : S.glob = S0.glob) : ExtAt Tryz.prog S 57 repX := by
  intro args H v H' hx c w cargs r hgl ha
  unfold repX at hx
  split at hx
  · rename_i s k
    split at hx
    · rename_i hk
      cases hx
      obtain ⟨vx, vy, rfl, h1, h2⟩ := ha.two
      cases h2
      cases h1 with
      | str _ t ht =>
        have e1 : ∀ w cargs, (callFunc 57 cargs).run Tryz.prog w = .ok (.enter 57 cargs) w := fun w cargs => enters_of Tryz.func57 (by kernel_rfl) rfl cargs w
        refine .inl ⟨fun w => e1 w _, ?_⟩
        have hsz : t.size = s.length := by rw [← ht]; exact Array.length_toList.symm
        have hcall := Any.strings_Repeat Tryz.lays105 extra105 t k.toNat w (by omega) (by
          rw [hsz]
          have : s.length * k.toNat ≤ 1048576 * 1048576 := Nat.mul_le_mul hk.2.2 (by omega)
          omega)
        rw [Int.toNat_of_nonneg hk.1, ht] at hcall
        refine Calls.mono hcall ?_
        rintro e w' ⟨rfl, hb⟩
        obtain ⟨r', p'⟩ := below_post r hb
        exact ⟨_, rfl, c, r', p', .str _ _ rfl⟩
    · cases hx
  · cases hx

/-! #### natives -/
theorem cntX_ok (S : Sg) : ExtAt Tryz.prog S 311 cntByteX := cntByte_ok Tryz.func311 (by kernel_rfl) (by kernel_rfl) (by kernel_rfl) (by kernel_rfl)
theorem idxX_ok (S : Sg) : ExtAt Tryz.prog S 247 idxByteX := idxByte_ok Tryz.func247 (by kernel_rfl) (by kernel_rfl) (by kernel_rfl) (by kernel_rfl)
theorem addc_ok (S : Sg) : ExtAt Tryz.prog S 102 add64X := add64_ok Tryz.func102 (by kernel_rfl) (by kernel_rfl) (by kernel_rfl) (by kernel_rfl)
theorem subb_ok (S : Sg) : ExtAt Tryz.prog S 189 sub64X := sub64_ok Tryz.func189 (by kernel_rfl) (by kernel_rfl) (by kernel_rfl) (by kernel_rfl)
end
end Go.AM.C

