/-
  The examples of the document, plain.
-/
import Derived.Test.YtkidicfpfknfoaaDoorVAwake
import Derived.Test.YtkidicfpfknfoaaDoorVPlBst
import Derived.Test.YtkidicfpfknfoaaDoorVTempA
import Derived.Test.YtkidicfpfknfoaaDoorVInts
import Derived.Test.YtkidicfpfknfoaaDoorVRefV
namespace Go.Proofs.YtkidicfpfknfoaaDoor.D
def knT : List Int := [0, 20, -275, 600]
def knA : List Int := [4850, 5630, 575, 130200]
theorem kn_vap {i : Nat} (h : i < 4) : inB (intD knT i) (-300) 600 = true ∧ vap (intD knT i) = intD knA i := by
  match i, h with
  | 0, _ => exact ⟨by kernel_rfl, by kernel_rfl⟩
  | 1, _ => exact ⟨by kernel_rfl, by kernel_rfl⟩
  | 2, _ => exact ⟨by kernel_rfl, by kernel_rfl⟩
  | 3, _ => exact ⟨by kernel_rfl, by kernel_rfl⟩
theorem knS1 : sweatO exS ⟨20, 40⟩ 2 = (true, true, 0) := by kernel_rfl
theorem knS2 : sweatO exS ⟨20, 40⟩ 1 = (false, false, 0) := by kernel_rfl
theorem knS3 : sweatO exS ⟨60, 110⟩ 2 = (false, true, 0) := by kernel_rfl
theorem knW1 : warmO exS ⟨20, 40⟩ 1 1 = (⟨36, 64⟩, 0) := by kernel_rfl
theorem knW2 : warmO exS ⟨20, 40⟩ 1 2 = (⟨48, 81⟩, 0) := by kernel_rfl
theorem knO1 : waitO exS ⟨20, 40⟩ 1 2 = (10, ⟨89, 119⟩, 0) := by kernel_rfl
theorem knO2 : waitO exS ⟨20, 40⟩ 0 1 = (0, ⟨20, 40⟩, 0) := by kernel_rfl
theorem knO3 : waitO exS ⟨20, 40⟩ 0 2 = (0, ⟨0, 0⟩, 9) := by kernel_rfl
theorem knN1 : nearE exS [0, 1] = 0 ∧ nears exS [0, 1] = [] := ⟨by kernel_rfl, by kernel_rfl⟩
theorem knN2 : nearE exS [1, 1] = 0 ∧ nears exS [1, 1] = [⟨1, 2⟩] := ⟨by kernel_rfl, by kernel_rfl⟩
theorem knH1 : whereE exS exM 14 = 0 ∧ whereA exS exM 14 = [1, 0] := ⟨by kernel_rfl, by kernel_rfl⟩
theorem knH2 : whereE exS exM 15 = 0 ∧ whereA exS exM 15 = [2, 0] := ⟨by kernel_rfl, by kernel_rfl⟩
theorem knT1 : tempE exS exM 0 24 = 0 ∧ tempA exS exM 0 24 = ⟨184, 218⟩ := ⟨by kernel_rfl, by kernel_rfl⟩
theorem knD : dewR 40 400 = -90 ∧ dewE 40 400 = 0 := ⟨by kernel_rfl, by kernel_rfl⟩
end Go.Proofs.YtkidicfpfknfoaaDoor.D
