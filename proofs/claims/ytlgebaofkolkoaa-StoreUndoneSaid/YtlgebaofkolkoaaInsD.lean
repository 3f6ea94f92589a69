/- The regions of coin.points that are taken by their contract. -/
import Derived.Test.YtlgebaofkolkoaaInsC
set_option linter.unusedSimpArgs false
set_option linter.unusedVariables false
set_option linter.defProp false
set_option maxRecDepth 10000
namespace Go.Am.Ytlgebaofkolkoaa.Ins
open Go Go.Am Go.Proofs
theorem fa31 (x : Nat) : fieldAddr env 31 (.ptr x 0) 0 = M.pure (.ptr x 0) := rfl
theorem fa48 (x : Nat) : fieldAddr env 48 (.ptr x 0) 0 = M.pure (.ptr x 0) := rfl
noncomputable def rW : List a9 → M (fQ × List a9) := pE 3 5 [17, 18, 19, 20, 21, 22, 23]
noncomputable def pG : List a9 → M (fQ × List a9) := pE 3 8 [73, 74, 75, 76, 77, 78, 79]
noncomputable def yV : pT Try.prog := ⟨113, 4, .region 4 (DO 17 3 5 31 "coin.go:24") true, rW, fun rnd => BQ 17 3 5 31 "coin.go:24" 4 rnd (by omega) (by omega) fa31⟩
noncomputable def qR : pT Try.prog := ⟨113, 12, .region 12 (DO 73 3 8 48 "coin.go:32") true, pG, fun rnd => BQ 73 3 8 48 "coin.go:32" 12 rnd (by omega) (by omega) fa48⟩
theorem wE {P : Program} (h : pT P) (l : List (pT P)) {c : Code} (hc : h.c = c) (hn : (h.fn.beq h.fn && h.id.beq h.id) = true := by simp) : fV (h :: l) h.fn h.id c = some h.act := by
 unfold fV
 rw [hn]
 simp only [hc, if_pos]
end Go.Am.Ytlgebaofkolkoaa.Ins
