/- sameKitchen: the law's walk. -/
import Derived.Test.YthbledeghanffaaDoorDrawKs
import Derived.Test.YthbledeghanffaaDoorStepP
import Derived.Test.YthbledeghanffaaDoorTilN
set_option linter.unusedVariables false
set_option linter.unusedSimpArgs false
namespace Go.Proofs.YthbledeghanffaaDoor
open Go.ChangeShapes Go.WideShapes Go.ChangeAt Go.RowKit

set_option maxRecDepth 20000 in
set_option maxHeartbeats 2000000 in
theorem sameKitchen_e (A A' : Option Addr) (c c' : Nat) (ks : List (List Ord)) (w : World) (h : SK w w.heap.size A ks) (h' : SK w w.heap.size A' ks) (hl : ks.length + total ks ≤ 1048576) :
    Calls Tryd.prog 49 #[.slice A ks.length c, .slice A' ks.length c'] w (RetE w) := by
  go_enter Tryd.func49, Tryd.ntmps49
  go_wp2
  go_loopw [5] (fun i wr => ∃ k : Nat, k ≤ ks.length ∧ i = .int .i64 k ∧ Below w.heap.size w wr) (fun i _ => ks.length - (intOf i).toNat)
  case atStart => exact ⟨0, Nat.zero_le _, rfl, Below.refl _ _⟩
  case round =>
    obtain ⟨k, hk, rfl, hW⟩ := hrel
    by_cases hlt : k < ks.length
    · obtain ⟨b, off, rfl, hbl, hcc⟩ := (h.below hW) (by omega)
      obtain ⟨b', off', rfl, hbl', hcc'⟩ := (h'.below hW) (by omega)
      obtain ⟨Aj, cj, hcell, hso, -⟩ := hcc k hlt
      obtain ⟨Aj', cj', hcell', hso', -⟩ := hcc' k hlt
      have hlj := len_le_total ks k hlt
      clear hcc hcc'
      have hs := hW.size
      go_wp2_with fail
      go_still_tail 8, (by kernel_rfl)
      go_wp2_with fail
      have hs1 : SO wr.drew wr.drew.heap.size Aj ks[k] := SO.more hso hW.size
      have hs2 : SO wr.drew wr.drew.heap.size Aj' ks[k] := SO.more hso' hW.size
      refine (sameTicket_e _ _ _ _ _ _ hs1 hs2 (by omega)).mono ?_
      rintro e w1 ⟨rfl, b1⟩
      go_wp2
      go_roundw
      case rel => exact ⟨k + 1, by omega, by go_num, below_step hW.drew b1⟩
      case measure => simp [intOf]; omega
    · obtain rfl : k = ks.length := by omega
      go_wp2
      go_ret
      exact ⟨rfl, hW⟩
end Go.Proofs.YthbledeghanffaaDoor
