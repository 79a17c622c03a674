/-
  The examples of the document, plain.
-/
import Derived.Test.YtapeakbngligaaaGreatDoorBPlB
namespace Go.Proofs.YtapeakbngligaaaGreatDoor.D
set_option linter.unusedVariables false
set_option maxRecDepth 100000
def ben : ByteArray := ⟨#[98, 101, 110]⟩
def exReel : Reel := ⟨⟨#[110, 97, 110, 97, 45, 50]⟩, 35, 1, 1000, 1925, 1940, 3, [⟨100, 4, 10⟩, ⟨200, 4, 18⟩, ⟨700, 4, 60⟩], [⟨4, 12⟩, ⟨7, 10⟩], [⟨100, 1891000, 1000⟩, ⟨200, 3780000, 2500⟩]⟩
def exNotes : List Note := [⟨ada, 1, 0, 3, 0, 49, 0, 0⟩, ⟨ada, 2, 0, 1, 150, 150, 20, 40⟩, ⟨ada, 3, 0, 1, 500, 500, 0, 300⟩, ⟨ada, 4, 0, 2, 520, 525, 0, 0⟩, ⟨ben, 1, 0, 1, 150, 150, 28, 60⟩, ⟨ben, 2, 0, 2, 524, 530, 0, 0⟩, ⟨ben, 3, 0, 1, 900, 900, 5, 10⟩]
def exT : Task := ⟨exReel, ⟨1200, 1230⟩, exNotes⟩
def exA : List Gap := [⟨50, 1, 0, 75⟩, ⟨150, 2, 28, 28⟩, ⟨500, 2, 172, 172⟩, ⟨900, 2, 5, 10⟩, ⟨1000, 3, 0, 75⟩]
theorem exChk : checkV exT = (0, 0, 0) := by decide +kernel
theorem exOk : okT exT = true := by decide +kernel
theorem exGaps : ansV (gapsT exT).1 (grpsT exT).1 = exA ∧ (gapsT exT).2 = [] ∧ (grpsT exT).2 = [] := by decide +kernel
theorem exAns : gapsAns exT = ⟨exA, [], [], 0⟩ := by
  unfold gapsAns
  rw [exChk, if_neg (by simp), exOk, if_pos rfl, exGaps.1, exGaps.2.1, exGaps.2.2]
theorem exPl1 : placeAns exT 950 = (⟨1105, 1180⟩, 0) := by decide +kernel
theorem exPl2 : (placeAns exT 20).2 = 4 := by decide +kernel
theorem exFnd : findAns exT 100 = ([⟨75, 149⟩], 0) := by decide +kernel
theorem exMrg : (mergeV [exNotes.drop 3, exNotes.take 4]).1.length = 7 ∧ (mergeV [exNotes.drop 3, exNotes.take 4]).2 = 0 := by decide +kernel
theorem exAft : afterV 1000 [⟨10, 19⟩, ⟨50, 59⟩] 100 = (80, 0) := by decide +kernel
end Go.Proofs.YtapeakbngligaaaGreatDoor.D
