/- PathKnown: closed facts about long texts (kernel). -/
import Derived.Test.YtkijhaibcnhedaaDoorPathWakes
namespace Go.Proofs.YtkijhaibcnhedaaDoor
def longT : List UInt8 := List.replicate 251 110
def deepT : List UInt8 := (List.replicate 253 [100, 47]).flatten ++ [100]
def wideT : List UInt8 := (List.replicate 16 (List.replicate 249 119 ++ [47])).flatten ++ List.replicate 80 119
theorem kn_c1 : classP ([97, 47, 46, 119, 104, 46] ++ longT) = (2, [97, 47] ++ longT) := by decide +kernel
theorem kn_c2 : (classP ([97, 47, 46, 119, 104, 46] ++ longT ++ [110])).1 = 0 := by decide +kernel
theorem kn_c3 : (classP [47, 46, 119, 104, 46, 46, 119, 104, 46, 46, 111, 112, 113]).1 = 0 := by decide +kernel
theorem kn_c4 : (classP []).1 = 0 := by decide +kernel
theorem kn_c5 : classP tableB = (4, []) := by decide +kernel
theorem kn_c6 : (classP [46, 119, 104, 46, 120, 47, 121]).1 = 0 := by decide +kernel
theorem kn_l1 : (cleanP (List.replicate 256 120)).2 = 3 := by decide +kernel
theorem kn_l2 : (cleanP [97, 0]).2 = 30 := by decide +kernel
theorem kn_l3 : (cleanP (List.replicate 256 [97, 47]).flatten).2 = 3 := by decide +kernel
theorem kn_l4 : (cleanP (List.replicate 255 [97, 47]).flatten).2 = 0 ∧ (cleanP (List.replicate 255 [97, 47]).flatten).1.length = 509 := by decide +kernel
theorem kn_l5 : cleanP [] = ([], 0) := by decide +kernel
theorem kn_m1 : mayP [] = true := by decide +kernel
theorem kn_m2 : mayP deepT = true := by decide +kernel
theorem kn_m3 : mayP (deepT ++ [47, 100]) = false := by decide +kernel
theorem kn_m4 : wideT.length = 4080 := by decide +kernel
theorem kn_m5 : mayP wideT = true := by decide +kernel
theorem kn_m6 : mayP (wideT ++ [119]) = false := by decide +kernel
theorem kn_m7 : mayP [97, 47, 47, 98] = false := by decide +kernel
theorem kn_m8 : mayP [97, 47] = false := by decide +kernel
theorem kn_j1 : joinP [[], [97], [], [98]] = [97, 47, 98] := by decide +kernel
theorem kn_p1 : parentP [97] = [] ∧ baseP [97, 47] = [] ∧ whiteoutP [] = [] ∧ opaqueP [] = markB := by decide +kernel
theorem kn_n : mayN longT = true ∧ mayN (longT ++ [110]) = false ∧ mayN [255] = true ∧ mayN [32] = true ∧ mayN [46, 119, 104, 46, 120] = false := by decide +kernel
end Go.Proofs.YtkijhaibcnhedaaDoor
