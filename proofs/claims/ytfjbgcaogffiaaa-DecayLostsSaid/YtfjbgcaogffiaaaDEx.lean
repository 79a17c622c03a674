/-
  The examples of the document, plain.
-/
import Derived.Test.YtfjbgcaogffiaaaDKnowA
import Derived.Test.YtfjbgcaogffiaaaDRefLev
namespace Go.Proofs.Ytfjbgcaogffiaaa.D
def exR : Rule := ⟨[⟨100, 100⟩, ⟨300, 500⟩, ⟨400, 1000⟩], [⟨200, 200⟩, ⟨600, 1000⟩], 50, 10000, 1000, 5000, 20000, 1030⟩
def exD : Day := ⟨200, 250, 400, 500⟩
def exT (l : List Test) : Task := ⟨exR, 100, [exD, exD, exD], ⟨900, 1000⟩, l⟩
theorem exR_ok : check exR = (0, 0, 0) := by kernel_rfl
theorem ex1 : levelsRes (exT [⟨101, 0, 0⟩]) = [⟨900, 989⟩, ⟨910, 999⟩, ⟨920, 1019⟩, ⟨930, 1039⟩] := by kernel_rfl
theorem ex1s : struckRes (exT [⟨101, 0, 0⟩]) = [] := by kernel_rfl
theorem ex1e : (checkTask (exT [⟨101, 0, 0⟩])).2.2 = 0 := by kernel_rfl
theorem ex2s : struckRes (exT [⟨101, 0, 0⟩, ⟨102, 3, 1⟩]) = [⟨1, 0⟩] := by kernel_rfl
theorem ex2l : (levelsRes (exT [⟨101, 0, 0⟩, ⟨102, 3, 1⟩])).length = 4 := by kernel_rfl
theorem ex2e : (checkTask (exT [⟨101, 0, 0⟩, ⟨102, 3, 1⟩])).2.2 = 0 := by kernel_rfl
theorem ex3 : lostT (exT []) = ⟨102, -1⟩ := by kernel_rfl
theorem ex3e : (checkTask (exT [])).2.2 = 0 := by kernel_rfl
end Go.Proofs.Ytfjbgcaogffiaaa.D
